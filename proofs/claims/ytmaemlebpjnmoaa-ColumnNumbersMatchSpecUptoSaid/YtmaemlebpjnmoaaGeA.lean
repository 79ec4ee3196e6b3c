/- slices.CompactFunc at []int with a comparison of one's own: the library's text walked (after the shelf's walk of slices.Compact). slices.SortFunc and slices.CompactFunc at []int: contracts in the words of SX. Printed by a program: what the functions compute, and the proofs of their contracts. -/
import Derived.Test.YtmaemlebpjnmoaaChecked
import Derived.WalkKit
import Derived.Deep.RegionWith
import Derived.Deep.RegionHeld3
import Derived.Deep.LoopGhost
import Derived.Deep.Draws
import Derived.Lib.Walk
import Derived.Sort.WalkA
import Derived.Sort.WalkB12
import Derived.Lib.SliceRun
import Derived.Lib.SlicesS
import Derived.Lib.SlicesCompact
import Derived.Shelf.SlSortCmp.NoneTotal
import Derived.Shelf.Lay
import Derived.Ground.SlsfProg
import Derived.Ground.Names2Prog
import Derived.Shelf.Slices.Clone
import Derived.Test.YtmaemlebpjnmoaaSxB
namespace Go.Proofs.Ytmaemlebpjnmoaa
open Go Go.Proofs Go.RowKit Go.Lib Go.Sort

theorem storeW {w wr : World} {n blk off : Nat} {dk : Array Int} {i : Nat} (hi : i < dk.size) (hwr : wr = putRow encI (Sort.ahead w n) blk off dk) (x : Int) :
    wr.setCell ⟨blk, off + i, none⟩ (encI x) = putRow encI (Sort.ahead w n) blk off (dk.setIfInBounds i x) := by
  subst hwr
  exact putRow_set encI _ blk off dk i x hi

theorem w64' (x y : Int) (e : x = y) (h1 : -9223372036854775808 ≤ y) (h2 : y < 9223372036854775808) : IntKind.i64.wrap x = y := by
  subst e; simp [IntKind.wrap, IntKind.bits, IntKind.signed]; omega

theorem f56 (x y : Int) (hx : -2000000000000000000 ≤ x ∧ x ≤ 2000000000000000000) (hy : -2000000000000000000 ≤ y ∧ y ≤ 2000000000000000000) (W : World) :
    Calls Try.prog 56 #[.int .i64 x, .int .i64 y] W fun e w' => e = .returned (.int .i64 (x - y)) ∧ w' = W := by
  have t3 : Try.prog.underlying 3 = some (.int .i64) := by kernel_rfl
  go_enter Try.func56, Try.ntmps56
  go_wp2
  go_ret
  exact ⟨by first | rfl | go_num, rfl⟩

theorem f86 (x y : Int) (hx : -2000000000000000000 ≤ x ∧ x ≤ 2000000000000000000) (hy : -2000000000000000000 ≤ y ∧ y ≤ 2000000000000000000) (a : Addr) (W : World) (ha : W.cell? a = some (.func (.func 56) #[] #[])) :
    Calls Try.prog 86 #[.int .i64 x, .int .i64 y, .pointer (some a)] W fun e w' => e = .returned (.bool (decide (x = y))) ∧ ∃ q, w' = W.drewN q := by
  have t3 : Try.prog.underlying 3 = some (.int .i64) := by kernel_rfl
  have h := fun W => f56 x y hx hy W
  go_enter Try.func86, Try.ntmps86
  go_wp2_with (go_at_call 56; refine (h _).mono ?_; rintro e w' ⟨rfl, rfl⟩)
  go_ret
  refine ⟨?_, 0, rfl⟩
  have : decide (x - y = 0) = decide (x = y) := by rw [decide_eq_decide]; omega
  first | rw [← this]; rfl | simp [this]

set_option maxHeartbeats 4000000 in
set_option maxRecDepth 1000000 in
/-- slices.CompactFunc at []int, over an array -/
theorem f85 (blk off cap : Nat) (d : Array Int) (w : World) (a : Addr) (ha : w.cell? a = some (.func (.func 56) #[] #[])) (hab : a.block ≠ blk) (hbd : ∀ j, j < d.size → -2000000000000000000 ≤ d[j]! ∧ d[j]! ≤ 2000000000000000000)
    (hH : Holds encI w blk off d) (hsz : d.size ≤ 9223372036854775807) (hcap : d.size ≤ cap) :
    Calls Try.prog 85 #[.slice (some ⟨blk, off, none⟩) d.size cap, .func (.func 86) #[] #[.pointer (some a)]] w fun e w' => e = .returned (.slice (some ⟨blk, off, none⟩) (compactUpTo d d.size).length cap) ∧ ∃ q, w' = putRow encI (Sort.ahead w q) blk off (compactUpTo d d.size ++ List.replicate (d.size - (compactUpTo d d.size).length) 0).toArray := by
  have mixed : Try.prog.follows .mixedOrders = true := by kernel_rfl
  have t42 : Try.prog.underlying 42 = some (.slice 3) := by kernel_rfl
  have t3 : Try.prog.underlying 3 = some (.int .i64) := by kernel_rfl
  have v3 : ∀ w, (zeroValue 3).run Try.prog w = .ok (Value.int IntKind.i64 0) w := fun w => by kernel_rfl
  have same : ∀ q, (∀ j, j < d.size → keeps d j = true) → (compactUpTo d d.size).length = d.size ∧ w.drewN q = putRow encI (Sort.ahead w q) blk off (compactUpTo d d.size ++ List.replicate (d.size - (compactUpTo d d.size).length) 0).toArray := by
    intro q hall
    have e : compactUpTo d d.size = d.toList := by rw [compactUpTo_all d _ hall, range_map_get]
    rw [e]
    refine ⟨by simp, ?_⟩
    simp only [Array.length_toList, Nat.sub_self, List.replicate_zero, List.append_nil, Array.toArray_toList]
    exact (putRow_self encI (Sort.ahead w q) blk off d (holds_ahead encI w q blk off d hH)).symm
  have HS : Aside (∀ q, (∀ j, j < d.size → keeps d j = true) → (compactUpTo d d.size).length = d.size ∧ w.drewN q = putRow encI (Sort.ahead w q) blk off (compactUpTo d d.size ++ List.replicate (d.size - (compactUpTo d d.size).length) 0).toArray) := same
  clear same
  have heq : Aside (∀ x y, (-2000000000000000000 ≤ x ∧ x ≤ 2000000000000000000) → (-2000000000000000000 ≤ y ∧ y ≤ 2000000000000000000) → ∀ W : World, W.cell? a = some (.func (.func 56) #[] #[]) → Calls Try.prog 86 #[.int .i64 x, .int .i64 y, .pointer (some a)] W fun e w' => e = .returned (.bool (decide (x = y))) ∧ ∃ q, w' = W.drewN q) := fun x y hx hy W hW => f86 x y hx hy a W hW
  have BD : Aside (∀ j, j < d.size → -2000000000000000000 ≤ d[j]! ∧ d[j]! ≤ 2000000000000000000) := hbd
  have HA : Aside (w.cell? a = some (.func (.func 56) #[] #[])) := ha
  clear ha hbd
  by_cases h2 : d.size < 2
  · have HH : Aside (Holds encI w blk off d) := hH
    clear hH
    go_enter Try.func85, Try.ntmps85
    go_wp2
    go_ret
    obtain ⟨e1, e2⟩ := HS.out 0 (fun j hj => keeps_lt_one d j (by omega))
    exact ⟨by rw [e1]; rfl, 0, e2⟩
  · go_enter Try.func85, Try.ntmps85
    go_wp2
    go_loopg [5] d.size (fun g s5 wr => ∃ k q : Nat, 1 ≤ k ∧ k ≤ d.size ∧ d.size - k ≤ g ∧ s5 = .int .i64 k ∧ wr = w.drewN q ∧ ∀ j, j < k → keeps d j = true)
    case atStart => exact ⟨1, 0, Nat.le_refl _, by omega, by omega, rfl, rfl, keeps_lt_one d⟩
    case round =>
      obtain ⟨k, q, hk1, hk, hg, rfl, rfl, hall⟩ := hrel
      by_cases hlt : k < d.size
      · obtain ⟨c1, f1⟩ := hH k hlt
        obtain ⟨c0, f0⟩ := hH (k - 1) (by omega)
        have A : Aside (∀ j, j < k → keeps d j = true) := hall
        have HH : Aside (Holds encI w blk off d) := hH
        clear hall hH
        have hx := BD.out k hlt
        have hy := BD.out (k - 1) (by omega)
        generalize hxe : d[k]! = x at c1 hx
        generalize hye : d[k - 1]! = y at c0 hy
        have B : Aside (d[k]! = x ∧ d[k - 1]! = y) := ⟨hxe, hye⟩
        clear hxe hye
        have E : Aside (∀ n, Calls Try.prog 86 #[.int .i64 x, .int .i64 y, .pointer (some a)] (w.drewN n) fun e w' => e = .returned (.bool (decide (x = y))) ∧ ∃ q, w' = (w.drewN n).drewN q) := fun n => heq.out x y hx hy _ (by simpa using HA.out)
        have hk0 : (0 : Int) ≤ (k : Int) := Int.natCast_nonneg _
        have hk2 : (k : Int) < (d.size : Int) := by omega
        have hk3 : IntKind.i64.wrap ((k : Int) - 1) = ((k - 1 : Nat) : Int) := w64' _ _ (by omega) (by omega) (by omega)
        have hk4 : (0 : Int) ≤ ((k - 1 : Nat) : Int) := Int.natCast_nonneg _
        have hk5 : ((k - 1 : Nat) : Int) < (d.size : Int) := by omega
        clear hx hy
        by_cases hdup : x = y
        · subst hdup
          go_wp2_with fail
          go_region_held3 (fun w' => w'.cell? ⟨blk, off + k, none⟩ = some (encI x) ∧ w'.cell? ⟨blk, off + (k - 1), none⟩ = some (encI x)) (go_keep) (first | (go_at_call 86; refine (E.out (q + 1)).mono ?_; rintro e w' ⟨rfl, q', rfl⟩))
          go_wp2
          clear c0 c1 f0 f1
          clear hk0 hk2 hk3 hk4 hk5 E
          go_loopg [5, 7] d.size (fun g s5 s7 wr => ∃ (kk k2 q2 : Nat) (dk : Array Int), s5 = .int .i64 kk ∧ s7 = .int .i64 k2 ∧ 1 ≤ k2 ∧ k + k2 ≤ d.size ∧ d.size - (k + k2) ≤ g ∧ wr = putRow encI (Sort.ahead w q2) blk off dk ∧ CompInv d (k + k2) kk dk)
          case atStart => exact ⟨k, 1, q + 1 + q', d, rfl, rfl, Nat.le_refl _, by omega, by omega, (putRow_self encI (Sort.ahead w (q + 1 + q')) blk off d (holds_ahead encI w (q + 1 + q') blk off d HH.out)).symm, CompInv.start A.out (keeps_neg (by omega) (by rw [B.out.1, B.out.2]))⟩
          case round =>
            obtain ⟨kk, k2, q2, dk, rfl, rfl, h1, hle, hg2, hwr, hI⟩ := hrel
            have hkk := hI.lt
            have hds := hI.size
            have hHk : Holds encI wr blk off dk := by rw [hwr]; exact holds_putRow encI _ blk off d dk (holds_ahead encI w q2 blk off d HH.out) hds
            have hA2 : wr.cell? a = some (.func (.func 56) #[] #[]) := by rw [hwr, cell?_putRow_other encI _ blk off dk a (.inl hab)]; simpa using HA.out
            have W2 : Aside (wr = putRow encI (Sort.ahead w q2) blk off dk) := hwr
            have I2 : Aside (CompInv d (k + k2) kk dk) := hI
            clear hwr
            by_cases hlt2 : k + k2 < d.size
            · obtain ⟨cm, _⟩ := hHk (k + k2) (by omega)
              obtain ⟨cp, _⟩ := hHk (k + k2 - 1) (by omega)
              obtain ⟨ck, fk⟩ := hHk kk (by omega)
              rw [hI.high (k + k2) (by omega), show off + (k + k2) = off + k + k2 by omega] at cm
              rw [hI.high (k + k2 - 1) (by omega), show off + (k + k2 - 1) = off + k + (k2 - 1) by omega] at cp
              clear hHk hI
              have hu' := BD.out (k + k2) hlt2
              have hv' := BD.out (k + k2 - 1) (by omega)
              generalize hu : d[k + k2]! = u at cm hu'
              generalize hv : d[k + k2 - 1]! = v at cp hv'
              generalize dk[kk]! = old at ck
              have C : Aside (d[k + k2]! = u ∧ d[k + k2 - 1]! = v) := ⟨hu, hv⟩
              clear hu hv
              have E2 : Aside (Calls Try.prog 86 #[.int .i64 u, .int .i64 v, .pointer (some a)] wr.drew fun e w' => e = .returned (.bool (decide (u = v))) ∧ ∃ q, w' = wr.drew.drewN q) := heq.out u v hu' hv' _ (by simpa using hA2)
              clear hu' hv' hA2
              have hk0 : (0 : Int) ≤ (k2 : Int) := Int.natCast_nonneg _
              have hk2 : (k2 : Int) < ((d.size - k : Nat) : Int) := by omega
              have hk3 : IntKind.i64.wrap ((k2 : Int) - 1) = ((k2 - 1 : Nat) : Int) := w64' _ _ (by omega) (by omega) (by omega)
              have hk4 : (0 : Int) ≤ ((k2 - 1 : Nat) : Int) := Int.natCast_nonneg _
              have hk5 : ((k2 - 1 : Nat) : Int) < ((d.size - k : Nat) : Int) := by omega
              by_cases huv : u = v
              · subst huv
                go_wp2_with fail
                go_region_held3 (fun w' => w'.cell? ⟨blk, off + k + k2, none⟩ = some (encI u) ∧ w'.cell? ⟨blk, off + k + (k2 - 1), none⟩ = some (encI u)) (go_keep) (first | (go_at_call 86; refine E2.out.mono ?_; rintro e w' ⟨rfl, q', rfl⟩))
                go_wp2
                go_roundg (d.size - (k + (k2 + 1)))
                case measure => omega
                case rel => exact ⟨kk, k2 + 1, q2 + (1 + q'), dk, rfl, by go_num, by omega, by omega, Nat.le_refl _, by rw [W2.out]; exact putRow_drewN encI w q2 (1 + q') blk off dk, I2.out.skip (keeps_neg (by omega) (by rw [C.out.1, C.out.2]))⟩
              · go_wp2_with fail
                go_region_held3 (fun w' => w'.cell? ⟨blk, off + k + k2, none⟩ = some (encI u) ∧ w'.cell? ⟨blk, off + k + (k2 - 1), none⟩ = some (encI v)) (go_keep) (first | (go_at_call 86; refine E2.out.mono ?_; rintro e w' ⟨rfl, q', rfl⟩))
                go_wp2
                go_roundg (d.size - (k + (k2 + 1)))
                case measure => omega
                case rel => exact ⟨kk + 1, k2 + 1, q2 + (1 + q'), dk.setIfInBounds kk u, by go_num, by go_num, by omega, by omega, Nat.le_refl _, storeW (by omega) (by rw [W2.out]; exact putRow_drewN encI w q2 (1 + q') blk off dk) u, by have := I2.out.keep hlt2 (keeps_pos (by rw [C.out.1, C.out.2]; exact huv)); rwa [C.out.1] at this⟩
            · have hend : k + k2 = d.size := by omega
              have hcl : ∀ ty, (Builtin.clear_ #[42] ty #[.slice (some ⟨blk, off + kk, none⟩) (d.size - kk) (cap - kk)]).run Try.prog wr = .ok (.tuple #[]) (wr.setCells blk (off + kk) (List.replicate (d.size - kk) (encI 0))) :=
                fun ty => Lib.run_clear_slice wr _ _ ty _ t42 v3 rfl rfl blk (off + kk) _ _ (by omega) (fun j hj => by rw [show off + kk + j = off + (kk + j) by omega, (hHk (kk + j) (by omega)).1]; rfl) (fun j hj => by rw [show off + kk + j = off + (kk + j) by omega]; exact (hHk (kk + j) (by omega)).2)
              clear hHk hI
              go_wp2
              go_ret
              have hI := I2.out
              rw [hend] at hI
              refine ⟨by rw [hI.len]; rfl, q2, ?_⟩
              rw [hI.len, ← hI.done 0, ← putRow_setCells encI _ blk off _ dk kk (by simp; omega), ← W2.out, List.map_replicate]
        · go_wp2_with fail
          go_region_held3 (fun w' => w'.cell? ⟨blk, off + k, none⟩ = some (encI x) ∧ w'.cell? ⟨blk, off + (k - 1), none⟩ = some (encI y)) (go_keep) (first | (go_at_call 86; refine (E.out (q + 1)).mono ?_; rintro e w' ⟨rfl, q', rfl⟩))
          go_wp2
          go_roundg (d.size - (k + 1))
          case measure => omega
          case rel =>
            refine ⟨k + 1, q + 1 + q', by omega, by omega, Nat.le_refl _, by go_num, rfl, fun j hj => ?_⟩
            by_cases e : j = k
            · subst e
              exact keeps_pos (by rw [B.out.1, B.out.2]; exact hdup)
            · exact A.out j (by omega)
      · have : k = d.size := by omega
        subst this
        have HH : Aside (Holds encI w blk off d) := hH
        clear hH
        go_wp2
        go_ret
        obtain ⟨e1, e2⟩ := HS.out q hall
        exact ⟨by rw [e1]; rfl, q, e2⟩

/-- the same at no element, a nil list too -/
theorem f85e (p : Option Addr) (cap : Nat) (a : Addr) (w : World) :
    Calls Try.prog 85 #[.slice p 0 cap, .func (.func 86) #[] #[.pointer (some a)]] w fun e w' => e = .returned (.slice p 0 cap) ∧ w' = w := by
  have mixed : Try.prog.follows .mixedOrders = true := by kernel_rfl
  have t42 : Try.prog.underlying 42 = some (.slice 3) := by kernel_rfl
  have t3 : Try.prog.underlying 3 = some (.int .i64) := by kernel_rfl
  go_enter Try.func85, Try.ntmps85
  go_wp2
  go_ret
  exact ⟨rfl, rfl⟩

end Go.Proofs.Ytmaemlebpjnmoaa
namespace Go.SX
open Go Go.Sort Go.Lib Go.RowKit Go.Shelf Go.Proofs
set_option linter.unusedVariables false

theorem eI_map (l : List Int) : eI.els l = l.map fun x => [pi x] := rfl

theorem wrote_row {w : World} {b n : Nat} {d : Array Int} : Wrote w (putRow encI (Sort.ahead w n) b 0 d) b := by
  refine ⟨rfl, rfl, rfl, ?_, fun x hx => ?_, fun c ty fz h => ?_⟩
  · simp [putRow, mapBlock, Sort.ahead]
  · simp [putRow, mapBlock, Sort.ahead, Array.getElem?_modify, Ne.symm hx]
  · refine ⟨putCells encI 0 d c, ?_, by simp [putCells]⟩
    simp [putRow, mapBlock, Sort.ahead, Array.getElem?_modify, h, onCells]

theorem ext_grow (w : World) (os : Array Obj) : Ext w (grow w os) := by
  refine ⟨rfl, rfl, rfl, by simp [grow], fun b hb => ?_⟩
  show (w.heap ++ os)[b]? = _
  rw [Array.getElem?_append_left hb]

/-- where a list of ints lies -/
structure Lies (w : World) (b : Nat) (l : List Int) (c : Array Value) (ty : TypeId) : Prop where
  at_ : w.heap[b]? = some (.cells c ty (0, 0))
  sz : l.length ≤ c.size
  val : ∀ (i : Nat) x, l[i]? = some x → c[i]? = some (.int .i64 x)

theorem lies_of {ι : IM} {w : World} {l : List Int} {b : Nat} (hR : Rel ι w [.arr 1 (eI.els l)]) (hb : ι 0 = some b) : ∃ c ty, Lies w b l c ty := by
  have h := hR.obj 0 _ rfl
  rcases h with ⟨h, _⟩ | ⟨b', c, ty, hb', hat, hsz, _, hv⟩
  · rw [hb] at h; cases h
  · rw [hb] at hb'; cases hb'
    refine ⟨c, ty, hat, by rw [eI.len] at hsz; omega, fun i x hx => ?_⟩
    obtain ⟨v, h1, h2⟩ := hv i [pi x] 0 (pi x) (by rw [eI_map]; simp [hx]) rfl
    cases h2
    simpa using h1

theorem Lies.holds {w : World} {b : Nat} {l : List Int} {c : Array Value} {ty : TypeId} (h : Lies w b l c ty) : Holds encI w b 0 l.toArray := by
  intro j hj
  have hj' : j < l.length := by simpa using hj
  refine ⟨?_, by simp [World.frozen?, h.at_]⟩
  rw [Nat.zero_add, cell_lit h.at_, h.val j l[j] (List.getElem?_eq_getElem hj')]
  simp [encI, hj']

theorem set_row {ι : IM} {w : World} {l : List Int} {b n : Nat} {c : Array Value} {ty : TypeId} {d : Array Int} (hR : Rel ι w [.arr 1 (eI.els l)]) (hb : ι 0 = some b) (h : Lies w b l c ty) (hd : d.size = l.length) :
    Rel ι (putRow encI (Sort.ahead w n) b 0 d) [.arr 1 (eI.els d.toList)] ∧ Keeps all ι w [.arr 1 (eI.els l)] ι (putRow encI (Sort.ahead w n) b 0 d) [.arr 1 (eI.els d.toList)] := by
  have ha : Body.alive (.arr 1 (eI.els l)) := by simp [Body.alive]
  have k := keeps_set (body' := .arr 1 (eI.els d.toList)) (st := [.arr 1 (eI.els l)]) (id := 0) rfl ha hb (wrote_row (w := w) (b := b) (n := n) (d := d))
  refine ⟨Rel.set (body' := .arr 1 (eI.els d.toList)) hR (id := 0) rfl ha hb wrote_row ?_, k⟩
  refine .inr ⟨b, putCells encI 0 d c, ty, hb, by simp [putRow, mapBlock, Sort.ahead, Array.getElem?_modify, h.at_, onCells], ?_, ?_, ?_⟩
  · have := h.sz; rw [eI.len]; simp [putCells, hd]; omega
  · intro e he; rw [eI_map, List.mem_map] at he; obtain ⟨x, _, rfl⟩ := he; rfl
  · intro i e j p he hp
    rw [eI_map, List.getElem?_map, Option.map_eq_some_iff] at he
    obtain ⟨x, hx, rfl⟩ := he
    have hi : i < d.size := by have := (List.getElem?_eq_some_iff.1 hx).1; simpa using this
    have hj : j = 0 := by
      cases j with
      | zero => rfl
      | succ j => simp at hp
    subst hj
    have hp2 : p = pi x := by simpa using hp.symm
    subst hp2
    refine ⟨.int .i64 x, ?_, .s _ rfl⟩
    have hc : i < c.size := by have := h.sz; omega
    have hx2 : d[i]! = x := by
      rw [getElem!_pos d i hi]
      have : d.toList[i]? = some d[i] := by simp [hi]
      rw [this] at hx; exact Option.some.inj hx
    rw [getElem!_pos d i hi] at hx2
    simp [putCells, hc, hi, hx2]

theorem args2 {ι : IM} {w : World} {st : St} {vs : List Value} {a b : AV} (h : ARel ι w st vs [a, b]) : ∃ x y, vs = [x, y] ∧ AVRel ι w st x a ∧ AVRel ι w st y b := by
  obtain ⟨hl, hv⟩ := h
  match vs, hl with
  | [x, y], _ => exact ⟨x, y, rfl, hv 0 x a rfl rfl, hv 1 y b rfl rfl⟩

/-- ints between bounds -/
abbrev Bd : Type := { n : Int // -2000000000000000000 ≤ n ∧ n ≤ 2000000000000000000 }
instance : Inhabited Bd := ⟨⟨0, by omega⟩⟩
abbrev bdE : Bd → Value := fun x => .int .i64 x.1
def bdC (x y : Bd) : Int := x.1 - y.1

theorem ltb (x y : Bd) : ltOf bdC x y = decide (x.val < y.val) := by
  show decide (x.val - y.val < 0) = _
  rw [decide_eq_decide]; omega

theorem bd_swo : SWO (ltOf bdC) where
  irrefl x := by rw [ltb, decide_eq_false_iff_not]; omega
  trans x y z h1 h2 := by rw [ltb, decide_eq_true_iff] at *; omega
  ntrans x y z h1 h2 := by rw [ltb, decide_eq_false_iff_not] at *; omega
theorem bd_tot (x y : Bd) (h1 : ltOf bdC x y = false) (h2 : ltOf bdC y x = false) : x = y := by
  rw [ltb, decide_eq_false_iff_not] at *; exact Subtype.ext (by omega)

theorem bd_list : ∀ (l : List Int), (∀ x ∈ l, -2000000000000000000 ≤ x ∧ x ≤ 2000000000000000000) → ∃ q : List Bd, q.map Subtype.val = l
  | [], _ => ⟨[], rfl⟩
  | x :: l, h => by
    obtain ⟨q, hq⟩ := bd_list l (fun y hy => h y (List.mem_cons_of_mem _ hy))
    exact ⟨⟨x, h x (List.mem_cons_self ..)⟩ :: q, by simp [hq]⟩

theorem putRow_bd (w : World) (b : Nat) (d : Array Bd) : putRow bdE w b 0 d = putRow encI w b 0 (d.map Subtype.val) := by
  unfold putRow
  refine mapBlock_congr _ _ _ _ fun c _ _ _ => ?_
  apply Array.ext_getElem?
  intro k
  simp only [putCells, Array.getElem?_mapIdx, Array.size_map]
  cases c[k]? with
  | none => rfl
  | some y =>
    simp only [Option.map_some]
    by_cases hk : 0 ≤ k ∧ k < 0 + d.size
    · rw [if_pos hk, if_pos hk]
      have hk2 : k < d.size := by omega
      simp [encI, hk2]
    · rw [if_neg hk, if_neg hk]

/-- the func value -/
theorem fn0 {ι : IM} {w : World} {st : St} {v : Value} {f : Nat} (h : AVRel ι w st v (.one (.pv (.fn f [])))) : v = .func (.func f) #[] #[] := by
  cases h with
  | one _ _ h => cases h with
    | pv _ _ h => cases h with
      | fn _ _ vs hl _ =>
        have : vs = [] := List.length_eq_zero_iff.1 (by simpa using hl)
        subst this; rfl

theorem map_msort (q : List Bd) : (q.mergeSort fun x y => !(ltOf bdC) y x).map Subtype.val = (q.map Subtype.val).mergeSort fun x y => decide (x ≤ y) := by
  refine List.map_mergeSort fun a _ b _ => ?_
  rw [ltb]
  by_cases h : a.1 ≤ b.1
  · rw [decide_eq_true h, decide_eq_false (by omega)]; rfl
  · rw [decide_eq_false h, decide_eq_true (by omega)]; rfl

/-- a closure over a variable that holds a func -/
theorem fn1 {ι : IM} {w : World} {st : St} {v : Value} {f g : Nat} (h : AVRel ι w st v (.one (.fn f [.pv (.rp [[.fn g []]] 0 0)]))) :
    ∃ a : Addr, v = .func (.func f) #[] #[.pointer (some a)] ∧ w.cell? a = some (.func (.func g) #[] #[]) ∧ ¬ Mut ι st a.block := by
  cases h with
  | one _ _ h => cases h with
    | fn _ _ vs hl hv =>
      match vs, hl with
      | [u], _ =>
        have hu := hv 0 _ u rfl rfl
        cases hu with
        | pv _ _ hp => cases hp with
          | rp a sz _ _ _ vf hsz hb hc hq =>
            have h1 := hc 0 [.fn g []] 0 (.fn g []) rfl rfl
            have h2 := hq 0 [.fn g []] 0 (.fn g []) rfl rfl
            refine ⟨_, rfl, h1.trans ?_, by rw [add_block]; exact (hb (by simp)).2⟩
            generalize vf 0 0 = z at h2
            cases h2 with
            | fn _ _ vs hl _ =>
              have : vs = [] := List.length_eq_zero_iff.1 (by simpa using hl)
              subst this; rfl

end Go.SX
namespace Go.Proofs.Ytmaemlebpjnmoaa
open Go Go.SX Go.Sort Go.Lib Go.RowKit Go.Shelf Go.Proofs

def nmAtU (P : Program) (f : FuncId) : String := ((P.funcs[f]?).map (fun x => x.name)).getD default
theorem bearsAtU {P : Program} {f : FuncId} {B : Func} (h1 : (nmAtU P f == "runtime.NumGoroutine") = false) (h2 : P.funcs[f]? = some { B with name := nmAtU P f }) : Bears P f B := ⟨_, h1, h2⟩
def rsortF : Ren where
  f := fun n => if n = 6 then 84 else if n = 15 then 78 else if n = 14 then 114 else if n = 28 then 113 else if n = 29 then 81 else if n = 20 then 128 else if n = 21 then 129 else if n = 22 then 130 else if n = 23 then 131 else if n = 24 then 132 else if n = 25 then 133 else if n = 26 then 134 else if n = 27 then 135 else if n = 46 then 138 else if n = 47 then 123 else if n = 48 then 124 else if n = 49 then 139 else if n = 50 then 140 else if n = 57 then 141 else n
  t := fun n => if n = 22 then 42 else if n = 24 then 3 else if n = 25 then 86 else if n = 3 then 3 else if n = 39 then 107 else if n = 0 then 0 else if n = 53 then 133 else if n = 55 then 88 else if n = 4 then 4 else if n = 46 then 126 else if n = 45 then 125 else if n = 50 then 113 else if n = 5 then 5 else if n = 9 then 9 else if n = 66 then 139 else if n = 70 then 142 else if n = 76 then 149 else if n = 77 then 150 else n
  g := fun n => n
set_option maxRecDepth 100000 in
theorem lsortF : SlLaysF.n6 Try.prog rsortF := by constructor <;> intros <;> first | kernel_rfl | exact bearsAtU (by kernel_rfl) (by kernel_rfl)

set_option maxRecDepth 100000 in
def slices_SortFunc_ints (p1 : List Int) : Option (Unit × List Int) :=
  grd (∀ x ∈ p1, -2000000000000000000 ≤ x ∧ x ≤ 2000000000000000000) <| grd (p1.length ≤ 4294967296) <| some ((), p1.mergeSort fun x y => decide (x ≤ y))

theorem sort_cmp (W : World) (blk off size : Nat) : CmpReads Try.prog 56 #[] bdE bdC blk off size W := fun m os dk hs x y =>
  (f56 x.1 y.1 x.2 y.2 _).mono fun _ _ ⟨he, hw⟩ => ⟨he, 0, by rw [hw]; rfl⟩

theorem c_slices_SortFunc_ints (p1 : List Int) (r : Unit × List Int) (h : slices_SortFunc_ints p1 = some r) :
    MC Try.prog 84 [.one (.sl 0 1 0 p1.length), .one (.pv (.fn 56 []))] [.arr 1 (eI.els p1)] (.tp []) [.arr 1 (eI.els r.2)] := by
  unfold slices_SortFunc_ints at h
  obtain ⟨g1, h⟩ := grd_some h
  obtain ⟨g2, h⟩ := grd_some h
  obtain rfl := Option.some.inj h
  intro ι w vs hR hA
  obtain ⟨x, y, rfl, hx, hy⟩ := args2 hA
  obtain rfl := fn0 hy
  have he : AVRel ι w [.arr 1 (eI.els (p1.mergeSort fun x y => decide (x ≤ y)))] (.tuple #[]) (.tp []) := .tp [] [] rfl (fun j v a h _ => by simp at h)
  have none_ : ∀ (p : Option Addr) (cap : Nat), p1.length = 0 → Calls Try.prog 84 #[.slice p 0 cap, .func (.func 56) #[] #[]] w fun e w' => ∃ v av st' ι', e = .returned v ∧ (av = .tp [] ∧ st' = [.arr 1 (eI.els (p1.mergeSort fun x y => decide (x ≤ y)))]) ∧ Rel ι' w' st' ∧ AVRel ι' w' st' v av ∧ Keeps (fun id => id ∉ ([] : List Nat)) ι w [.arr 1 (eI.els p1)] ι' w' st' := by
    intro p cap h0
    have e0 : p1 = [] := List.length_eq_zero_iff.1 h0
    subst e0
    refine (AnyF.slices_SortFunc_none { lsortF with } p cap _ w).mono ?_
    rintro e w' ⟨rfl, rfl⟩
    refine ⟨_, _, _, ι, rfl, ⟨rfl, rfl⟩, ?_, he, ?_⟩
    · simpa using hR
    · simpa using Keeps.refl
  have hxc := cv_of' hx
  clear hx
  generalize hL : p1.length = L at hxc
  cases hxc with
  | sn _ _ hid hb => exact none_ none 0 hL
  | sl _ _ _ _ b cap hid hb hcap hc =>
    subst hL
    by_cases h0 : p1.length = 0
    · rw [h0]; exact none_ _ _ h0
    · obtain ⟨c, ty, hl⟩ := lies_of hR hb
      obtain ⟨q, hq⟩ := bd_list p1 g1
      have hql : q.length = p1.length := by rw [← hq]; simp
      have hH : Holds bdE w b 0 q.toArray := by
        intro j hj
        have hj1 : j < p1.toArray.size := by simpa [hql] using hj
        obtain ⟨a1, a2⟩ := hl.holds j hj1
        refine ⟨?_, a2⟩
        rw [a1]
        have hj2 : j < q.length := by simpa using hj
        subst hq
        simp [encI, hj2]
      have hlt : b < w.heap.size := (Array.getElem?_eq_some_iff.1 hl.at_).1
      have := Any.slices_SortFunc_total lsortF bdE (fun _ => rfl) bdC bd_swo 56 #[] b 0 cap q.toArray w (enters_of Try.func56 (by kernel_rfl) rfl) (sort_cmp w b 0 _).lays hH hlt (by simp [hql]; omega) bd_tot
      rw [show q.toArray.size = p1.length by simp [hql]] at this
      refine this.mono ?_
      rintro e w' ⟨rfl, n, os, rfl⟩
      have hms := map_msort q
      rw [hq] at hms
      have hd : ((q.mergeSort fun x y => !(ltOf bdC) y x).toArray.map Subtype.val) = (p1.mergeSort fun x y => decide (x ≤ y)).toArray := by
        rw [← hms]; simp
      obtain ⟨r1, k1⟩ := set_row (n := n) (d := (p1.mergeSort fun x y => decide (x ≤ y)).toArray) hR hb hl (by simp)
      have hw : sortWorld bdE w b 0 n (q.mergeSort fun x y => !(ltOf bdC) y x).toArray os = grow (putRow encI (Sort.ahead w n) b 0 (p1.mergeSort fun x y => decide (x ≤ y)).toArray) os := by
        unfold sortWorld
        rw [putRow_bd, hd]
      refine ⟨_, _, _, ι, rfl, ⟨rfl, rfl⟩, ?_, .tp [] [] rfl (fun j v a h _ => by simp at h), ?_⟩
      · rw [hw]; exact r1.ext (ext_grow _ _)
      · rw [hw]; exact (k1.trans ((ext_grow _ _).keeps ι _)).weaken (fun _ _ => trivial)

def slices_CompactFunc_ints (p1 : List Int) : Option (List Int) :=
  grd (∀ x ∈ p1, -2000000000000000000 ≤ x ∧ x ≤ 2000000000000000000) <| grd (p1.length ≤ 4294967296) <| some (compact p1)

theorem c_slices_CompactFunc_ints (p1 : List Int) (r : List Int) (h : slices_CompactFunc_ints p1 = some r) :
    MC Try.prog 85 [.one (.sl 0 1 0 p1.length), .one (.fn 86 [.pv (.rp [[.fn 56 []]] 0 0)])] [.arr 1 (eI.els p1)] (vl eI r) [.dead] := by
  unfold slices_CompactFunc_ints at h
  obtain ⟨g1, h⟩ := grd_some h
  obtain ⟨g2, h⟩ := grd_some h
  obtain rfl := Option.some.inj h
  intro ι w vs hR hA
  obtain ⟨x, y, rfl, hx, hy⟩ := args2 hA
  obtain ⟨a, rfl, ha, hnm⟩ := fn1 hy
  have hkill := fun (w' : World) (l' : List Int) (r1 : Rel ι w' [.arr 1 (eI.els l')]) => Rel.kill r1 0
  have none_ : ∀ (p : Option Addr) (cap : Nat), p1.length = 0 → AVRel ι w [.dead] (.slice p 0 cap) (vl eI []) → Calls Try.prog 85 #[.slice p 0 cap, .func (.func 86) #[] #[.pointer (some a)]] w fun e w' => ∃ v av st' ι', e = .returned v ∧ (av = vl eI (compact p1) ∧ st' = [.dead]) ∧ Rel ι' w' st' ∧ AVRel ι' w' st' v av ∧ Keeps (fun id => id ∉ ([] : List Nat)) ι w [.arr 1 (eI.els p1)] ι' w' st' := by
    intro p cap h0 hv
    have e0 : p1 = [] := List.length_eq_zero_iff.1 h0
    subst e0
    refine (f85e p cap a w).mono ?_
    rintro e w' ⟨rfl, rfl⟩
    exact ⟨_, _, _, ι, rfl, ⟨rfl, rfl⟩, (hkill _ _ hR).1, hv, (hkill _ _ hR).2.weaken (fun _ _ => trivial)⟩
  have hxc := cv_of' hx
  clear hx
  generalize hL : p1.length = L at hxc
  cases hxc with
  | sn _ _ hid hb => exact none_ none 0 hL (.one _ _ (.pv _ _ .nl))
  | sl _ _ _ _ b cap hid hb hcap hc =>
    subst hL
    have hown : Own ι [.arr 1 (eI.els p1)] b := ⟨0, _, rfl, by simp [Body.alive], hb⟩
    by_cases h0 : p1.length = 0
    · rw [h0]
      refine none_ _ _ h0 (.one _ _ (.pv _ _ ?_))
      exact PRel.ro _ cap 1 [] (fun _ _ => undef) (by simp) (by simp) (by simp) (fun i e j c h => by simp at h) (fun i e j c h => by simp at h)
    · obtain ⟨c, ty, hl⟩ := lies_of hR hb
      have hlt : b < w.heap.size := (Array.getElem?_eq_some_iff.1 hl.at_).1
      have hsz : p1.toArray.size = p1.length := by simp
      have hbd : ∀ j, j < p1.toArray.size → -2000000000000000000 ≤ p1.toArray[j]! ∧ p1.toArray[j]! ≤ 2000000000000000000 := by
        intro j hj
        rw [getElem!_pos _ j hj]
        exact g1 _ (by simp)
      have := f85 b 0 cap p1.toArray w a ha (fun e => hnm (by rw [e]; exact .inr hown)) hbd hl.holds (by omega) (by omega)
      rw [hsz] at this
      have hcl : (compactUpTo p1.toArray p1.length).length ≤ p1.length := by
        unfold compactUpTo
        rw [List.length_map]
        exact Nat.le_trans (List.length_filter_le _ _) (by simp)
      refine this.mono ?_
      rintro e w' ⟨rfl, q, rfl⟩
      have hds : (compactUpTo p1.toArray p1.length ++ List.replicate (p1.length - (compactUpTo p1.toArray p1.length).length) 0).toArray.size = p1.length := by simp; omega
      obtain ⟨r1, k1⟩ := set_row (n := q) (d := (compactUpTo p1.toArray p1.length ++ List.replicate (p1.length - (compactUpTo p1.toArray p1.length).length) 0).toArray) hR hb hl hds
      obtain ⟨r2, k2⟩ := hkill _ _ r1
      have hcells := holds_putRow encI (Sort.ahead w q) b 0 p1.toArray (compactUpTo p1.toArray p1.length ++ List.replicate (p1.length - (compactUpTo p1.toArray p1.length).length) 0).toArray (holds_ahead encI w q b 0 _ hl.holds) (by rw [hds, hsz])
      refine ⟨_, _, _, ι, rfl, ⟨rfl, rfl⟩, r2, .one _ _ (.pv _ _ ?_), (k1.trans k2).weaken (fun _ _ => trivial)⟩
      have hlW : b < (putRow encI (Sort.ahead w q) b 0 (compactUpTo p1.toArray p1.length ++ List.replicate (p1.length - (compactUpTo p1.toArray p1.length).length) 0).toArray).heap.size := by
        simp [putRow, mapBlock, Sort.ahead]; exact hlt
      clear r1 k1 r2 k2
      generalize putRow encI (Sort.ahead w q) b 0 (compactUpTo p1.toArray p1.length ++ List.replicate (p1.length - (compactUpTo p1.toArray p1.length).length) 0).toArray = W at hcells hlW ⊢
      have hlen : (compactUpTo p1.toArray p1.length).length = (eI.els (compact p1)).length := by rw [eI.len]; rfl
      rw [hlen]
      refine PRel.ro ⟨b, 0, none⟩ cap 1 _ (fun i j => .int .i64 ((compact p1)[i]!)) (by rw [eI.len]; exact Nat.le_trans hcl hcap) ?_ (fun _ => ⟨?_, ?_⟩) ?_ ?_
      · intro e he; rw [eI_map, List.mem_map] at he; obtain ⟨x, _, rfl⟩ := he; rfl
      · exact hlW
      · rintro (h | ⟨id, o, h1, h2, _⟩)
        · exact hR.dis b hown h
        · cases id with
          | zero => cases h1; exact h2 rfl
          | succ id => simp at h1
      · intro i e j c he hj
        rw [eI_map, List.getElem?_map, Option.map_eq_some_iff] at he
        obtain ⟨x, hx, rfl⟩ := he
        have hj0 : j = 0 := by
          cases j with
          | zero => rfl
          | succ j => simp at hj
        subst hj0
        have hi : i < (compact p1).length := (List.getElem?_eq_some_iff.1 hx).1
        have hi2 : i < (compactUpTo p1.toArray p1.length).length := hi
        have := (hcells i (by rw [hds]; omega)).1
        rw [Nat.zero_add] at this
        rw [add_lit, show 0 + (i * 1 + 0) = i by omega, this]
        have e1 : (compactUpTo p1.toArray p1.length ++ List.replicate (p1.length - (compactUpTo p1.toArray p1.length).length) 0).toArray[i]! = (compact p1)[i]! := by
          rw [getElem!_pos _ i (by rw [hds]; omega), getElem!_pos _ i hi]
          simp [List.getElem_append_left hi2]
          rfl
        rw [e1]
      · intro i e j c he hj
        rw [eI_map, List.getElem?_map, Option.map_eq_some_iff] at he
        obtain ⟨x, hx, rfl⟩ := he
        have hj0 : j = 0 := by
          cases j with
          | zero => rfl
          | succ j => simp at hj
        subst hj0
        have hc : c = pi x := by simpa using hj.symm
        subst hc
        have hi : i < (compact p1).length := (List.getElem?_eq_some_iff.1 hx).1
        have : (compact p1)[i]! = x := by rw [getElem!_pos _ i hi]; exact (List.getElem?_eq_some_iff.1 hx).2
        rw [this]
        exact .s _ rfl

/-! ### at no element, out of what is not written any more -/

theorem ro_nil {ι : IM} {w : World} {st : St} {v : Value} (h : AVRel ι w st v (vl eI [])) : v = .slice none 0 0 ∨ ∃ a cap, v = .slice (some a) 0 cap := by
  cases h with
  | one _ _ h => cases h with
    | pv _ _ h => 
      have : ∀ x, eI.els ([] : List Int) = x → PRel (Mut ι st) w v (.ro x) → v = .slice none 0 0 ∨ ∃ a cap, v = .slice (some a) 0 cap := by
        intro x hx hp
        cases hp with
        | nl => exact .inl rfl
        | ro a cap sz els vf hcap hsz hb hc hv => 
          have : x = [] := hx.symm
          subst this
          exact .inr ⟨a, cap, rfl⟩
      exact this _ rfl h

theorem nil_ro {ι : IM} {w : World} {st : St} (v : Value) (h : v = .slice none 0 0 ∨ ∃ a cap, v = .slice (some a) 0 cap) : AVRel ι w st v (vl eI []) := by
  rcases h with rfl | ⟨a, cap, rfl⟩
  · exact .one _ _ (.pv _ _ .nl)
  · exact .one _ _ (.pv _ _ (PRel.ro a cap 1 [] (fun _ _ => undef) (by simp) (by simp) (by simp) (fun i e j c h => by simp at h) (fun i e j c h => by simp at h)))

theorem args1 {ι : IM} {w : World} {st : St} {vs : List Value} {a : AV} (h : ARel ι w st vs [a]) : ∃ x, vs = [x] ∧ AVRel ι w st x a := by
  obtain ⟨hl, hv⟩ := h
  match vs, hl with
  | [x], _ => exact ⟨x, rfl, hv 0 x a rfl rfl⟩

def rcloneL : Ren where
  f := fun n => if n = 15 then 83 else n
  t := fun n => if n = 22 then 42 else if n = 3 then 3 else if n = 4 then 4 else n
  g := fun n => n
set_option maxRecDepth 100000 in
theorem lcloneL : Lays2.n15 Try.prog rcloneL := by constructor <;> intros <;> first | kernel_rfl | exact bearsAtU (by kernel_rfl) (by kernel_rfl)

set_option maxRecDepth 100000 in
def slices_Clone_ints_0 (p1 : List Int) : Option (List Int) := grd (p1 = []) <| some []

theorem c_slices_Clone_ints_0 (p1 : List Int) (r : List Int) (h : slices_Clone_ints_0 p1 = some r) : PC Try.prog 83 [vl eI p1] (vl eI r) := by
  unfold slices_Clone_ints_0 at h
  obtain ⟨g1, h⟩ := grd_some h
  subst g1
  obtain rfl := Option.some.inj h
  intro ι w vs hR hA
  obtain ⟨x, rfl, hx⟩ := args1 hA
  rcases ro_nil hx with rfl | ⟨a, cap, rfl⟩
  · refine (Any.slices_Clone_int_nil lcloneL 0 0 w).mono ?_
    rintro e w' ⟨rfl, rfl⟩
    exact ⟨_, _, _, ι, rfl, ⟨rfl, rfl⟩, hR, nil_ro _ (.inl rfl), Keeps.refl⟩
  · refine (Any.slices_Clone_int_zero lcloneL a cap w).mono ?_
    rintro e w' ⟨v, rfl, ho, hn, hb⟩
    have hx : Ext w w' := ⟨hb.os, hb.tape, hb.output, hb.size, fun b hlt => hb.block b hlt⟩
    refine ⟨_, _, _, ι, rfl, ⟨rfl, rfl⟩, hR.ext hx, nil_ro _ ?_, (hx.keeps ι []).weaken (fun _ _ => trivial)⟩
    rcases ho.2 with ⟨rfl, _⟩ | ⟨g, c2, cur, rfl, _⟩
    · exact absurd rfl hn
    · exact .inr ⟨_, _, rfl⟩

def slices_SortFunc_ints_0 (p1 : List Int) : Option Unit := grd (p1 = []) <| some ()

theorem c_slices_SortFunc_ints_0 (p1 : List Int) (r : Unit) (h : slices_SortFunc_ints_0 p1 = some r) : PC Try.prog 84 [vl eI p1, .one (.pv (.fn 56 []))] (.tp []) := by
  unfold slices_SortFunc_ints_0 at h
  obtain ⟨g1, h⟩ := grd_some h
  subst g1
  intro ι w vs hR hA
  obtain ⟨x, y, rfl, hx, hy⟩ := args2 hA
  obtain rfl := fn0 hy
  have key : ∀ p cap, Calls Try.prog 84 #[.slice p 0 cap, .func (.func 56) #[] #[]] w fun e w' => ∃ v av st' ι', e = .returned v ∧ (av = .tp [] ∧ st' = []) ∧ Rel ι' w' st' ∧ AVRel ι' w' st' v av ∧ Keeps (fun id => id ∉ ([] : List Nat)) ι w [] ι' w' st' := fun p cap => by
    refine (AnyF.slices_SortFunc_none { lsortF with } p cap _ w).mono ?_
    rintro e w' ⟨rfl, rfl⟩
    exact ⟨_, _, _, ι, rfl, ⟨rfl, rfl⟩, hR, .tp [] [] rfl (fun j v a h _ => by simp at h), Keeps.refl⟩
  rcases ro_nil hx with rfl | ⟨a, cap, rfl⟩
  · exact key none 0
  · exact key _ cap

def slices_CompactFunc_ints_0 (p1 : List Int) : Option (List Int) := grd (p1 = []) <| some []

theorem c_slices_CompactFunc_ints_0 (p1 : List Int) (r : List Int) (h : slices_CompactFunc_ints_0 p1 = some r) : PC Try.prog 85 [vl eI p1, .one (.fn 86 [.pv (.rp [[.fn 56 []]] 0 0)])] (vl eI r) := by
  unfold slices_CompactFunc_ints_0 at h
  obtain ⟨g1, h⟩ := grd_some h
  subst g1
  obtain rfl := Option.some.inj h
  intro ι w vs hR hA
  obtain ⟨x, y, rfl, hx, hy⟩ := args2 hA
  obtain ⟨a, rfl, ha, hnm⟩ := fn1 hy
  have key : ∀ p cap, (∀ v, v = .slice p 0 cap → AVRel ι w [] v (vl eI [])) → Calls Try.prog 85 #[.slice p 0 cap, .func (.func 86) #[] #[.pointer (some a)]] w fun e w' => ∃ v av st' ι', e = .returned v ∧ (av = vl eI [] ∧ st' = []) ∧ Rel ι' w' st' ∧ AVRel ι' w' st' v av ∧ Keeps (fun id => id ∉ ([] : List Nat)) ι w [] ι' w' st' := fun p cap hp => by
    refine (f85e p cap a w).mono ?_
    rintro e w' ⟨rfl, rfl⟩
    exact ⟨_, _, _, ι, rfl, ⟨rfl, rfl⟩, hR, hp _ rfl, Keeps.refl⟩
  rcases ro_nil hx with rfl | ⟨b, cap, rfl⟩
  · exact key none 0 (fun v hv => nil_ro v (.inl hv))
  · exact key _ cap (fun v hv => nil_ro v (.inr ⟨_, _, hv⟩))

end Go.Proofs.Ytmaemlebpjnmoaa
namespace Go.Proofs.Ytmaemlebpjnmoaa
open Go.SX Go
set_option linter.unusedVariables false
set_option linter.unusedSimpArgs false
set_option maxRecDepth 100000
set_option maxHeartbeats 8000000

def column_outside_j1 (x1 : Bool) : Option Bool :=
    some x1

def column_outside (p1 : Int) : Option Bool :=
    ift (decide (p1 < (-2000000000000000000 : Int)))
      (column_outside_j1 true)
      (column_outside_j1 (decide ((2000000000000000000 : Int) < p1)))


theorem c_column_outside (p1 : Int) (r : Bool) (h : column_outside p1 = some r) : PC Try.prog 38 [vi p1] (vb r) := by
 unfold column_outside at h
 refine zF 9 Try.f38 (zq fun K1 hK1 => zr (zg [] 1 [0] (zd (hK1 _ _ (zq fun K2 hK2 => ?_)))))
 have hJ1 : ∀ (x1 : Bool), column_outside_j1 x1 = some r → ∀ fr1 st1, Sub 9 0 [] fr1 st1 [(2, vb x1)] [] → K2 fr1 st1 := by
  intro x1 h fr1 st1 hS
  unfold column_outside_j1 at h
  refine hK2 _ _ (XW.sub hS ?_)
  refine ze ?_
  obtain rfl := Option.some.inj h
  exact zf [vb x1] (.one (.rfl _ rfl))
 rcases zW h with ⟨b3, h⟩ | ⟨b3, h⟩
 ·exact zr (zg [] 3 [0,5] (zt 5 b3 (zv [] 4 [2] [] [(2, vb true)] [] (zd (hJ1 true h _ _ (zk [2]))))))
 ·exact zr (zg [] 3 [0,5] (zt 5 b3 (zg [] 4 [2] (zd (hJ1 (decide ((2000000000000000000 : Int) < p1)) h _ _ (zk [2]))))))

def slices_IndexFunc_int_int_of_column_outside_j1 : Option Int :=
    some (-1 : Int)

def slices_IndexFunc_int_int_of_column_outside_l1 (p1 : (List Int)) : Nat → Int → Option Int
  | 0, _ => none
  | k1 + 1, x1 =>
    ift (decide (x1 < (p1.length : Int)))
      (bnd (at? p1 x1) fun e1 =>
       bnd (column_outside e1) fun r1 =>
       ift r1
         (some x1)
         ((slices_IndexFunc_int_int_of_column_outside_l1 p1 k1) (IntKind.i64.wrap (x1 + (1 : Int)))))
      (slices_IndexFunc_int_int_of_column_outside_j1)

def slices_IndexFunc_int_int_of_column_outside (p1 : (List Int)) : Option Int :=
    slices_IndexFunc_int_int_of_column_outside_l1 p1 BIG (0 : Int)


theorem c_slices_IndexFunc_int_int_of_column_outside (p1 : (List Int)) (r : Int) (h : slices_IndexFunc_int_int_of_column_outside p1 = some r) : PC Try.prog 51 [vl eI p1, .one (.pv (.fn 38 []))] (vi r) := by
 unfold slices_IndexFunc_int_int_of_column_outside at h
 refine zF 19 Try.f51 (zq fun K1 hK1 => zr (zg [] 1 [0,1] (zd (hK1 _ _ (zq fun K2 hK2 => ?_)))))
 have hJ1 : ∀ (_ : Unit), slices_IndexFunc_int_int_of_column_outside_j1 = some r → ∀ fr1 st1, Sub 19 0 [] fr1 st1 [] [] → K2 fr1 st1 := by
  intro _ h fr1 st1 hS
  unfold slices_IndexFunc_int_int_of_column_outside_j1 at h
  refine hK2 _ _ (XW.sub hS ?_)
  refine zq fun K14 hK14 => zr (zg [] 1 [4] (zd (hK14 _ _ (ze ?_))))
  obtain rfl := Option.some.inj h
  exact zf [vi (-1 : Int)] (.one (.rfl _ rfl))
 refine zq fun K3 hK3 => zr (zv [] 2 [0,1,7] [] [(0, vl eI p1), (1, .one (.pv (.fn 38 []))), (7, vi ((eI.els p1).length : Int))] [] ?_)
 rw [eI.len p1]
 refine zg [] 1 [0,1,7,8] (zd (hK3 _ _ (zb 0 (XW.rounds' BIG (x := cd Try.f51 [1,0,1,0,0]) (by kernel_rfl) fun Q1 hQ1 => ?_))))
 have hL1 : ∀ (k1 : Nat) (x1 : Int), slices_IndexFunc_int_int_of_column_outside_l1 p1 k1 x1 = some r → XR Try.prog 19 0 [] (cd Try.f51 [1,0,1,0,0]) Q1 k1 [(0, vl eI p1), (1, .one (.pv (.fn 38 []))), (7, vi (p1.length : Int)), (8, vi x1)] [] := by
  intro k1
  induction k1 with
  | zero => intro x1 h; rw [slices_IndexFunc_int_int_of_column_outside_l1.eq_1] at h; cases h
  | succ k1 ih1 =>
   intro x1 h
   rw [slices_IndexFunc_int_int_of_column_outside_l1.eq_2] at h
   refine zq fun K4 hK4 => zr (zg [] 1 [0,1,7,8,9] (zd (hK4 _ _ (zq fun K5 hK5 => zC h (fun b6 h => ?_) (fun b6 h => ?_)))))
   ·refine zs (hK5 _ _ (zq fun K7 hK7 => zb 1 (zq fun K8 hK8 => zr (zg [] 2 [0,1,5,7,8] (zd ?_)))))
    refine hK8 _ _ (zq fun K9 hK9 => ?_)
    obtain ⟨e1, a10, h⟩ := zB h
    obtain ⟨r1, c11, h⟩ := zB h
    refine zr (zp [] 5 [0,1,5,7,8,11,15] [[pi e1]] [(0, vl eI p1), (1, .one (.pv (.fn 38 []))), (5, vi x1), (7, vi (p1.length : Int)), (8, vi x1), (11, .one (.pv (.fn 38 []))), (15, vi e1)] [] [0 ≤ x1 ∧ x1 < ((eI.els p1).length : Int) ∧ elemsOk 1 (eI.els p1), (eI.els p1)[x1.toNat]? = some [pi e1]] (⟨eI.inb a10, (eI.get a10), trivial⟩) (za (c_column_outside _ _ c11) (zd (hK9 _ _ (zC h (fun b12 h => ?_) (fun b12 h => ?_))))))
    ·refine zq fun K13 hK13 => zr (zg [] 2 [4] (zd (hK13 _ _ (ze (hQ1 _ _ _ ?_)))))
     obtain rfl := Option.some.inj h
     exact zf [vi x1] (.one (.rfl _ rfl))
    ·exact zs (hK7 _ _ (zr (zv [] 2 [0,1,7,8] [] [(0, vl eI p1), (1, .one (.pv (.fn 38 []))), (7, vi (p1.length : Int)), (8, vi (IntKind.i64.wrap (x1 + (1 : Int))))] [] (zd (XR.sub (zk [0,1,7,8]) (ih1 (IntKind.i64.wrap (x1 + (1 : Int))) h))))))
   ·exact zx 0 (hQ1 _ _ _ (hJ1 () h _ _ (zk [])))
 exact XR.sub (zk [0,1,7,8]) (hL1 BIG (0 : Int) h)

def slices_ContainsFunc_int_int_of_column_outside (p1 : (List Int)) : Option Bool :=
    bnd (slices_IndexFunc_int_int_of_column_outside p1) fun r1 =>
    some (decide ((0 : Int) ≤ r1))


theorem c_slices_ContainsFunc_int_int_of_column_outside (p1 : (List Int)) (r : Bool) (h : slices_ContainsFunc_int_int_of_column_outside p1 = some r) : PC Try.prog 37 [vl eI p1, .one (.pv (.fn 38 []))] (vb r) := by
 unfold slices_ContainsFunc_int_int_of_column_outside at h
 refine zF 9 Try.f37 (zq fun K1 hK1 => zr (zg [] 1 [0,1] (zd (hK1 _ _ (zq fun K2 hK2 => ?_)))))
 obtain ⟨r1, c3, h⟩ := zB h
 refine zr (zg [] 2 [5,6] (zl 51 [vl eI p1, .one (.pv (.fn 38 []))] (vi r1) [(7, vi r1), (5, vl eI p1), (6, .one (.pv (.fn 38 [])))] (c_slices_IndexFunc_int_int_of_column_outside _ _ c3) (zg [] 2 [4] (zd (hK2 _ _ (ze ?_))))))
 obtain rfl := Option.some.inj h
 exact zf [vb (decide ((0 : Int) ≤ r1))] (.one (.rfl _ rfl))

def column_number_s_j1 (l2 : List Int) (x2 : Int) : Option (Unit × (List Int)) :=
    grd (l2.length + 1 ≤ 4294967296) <|
    some ((), (l2 ++ [(IntKind.u8.wrap x2)]))

def column_number_s_l1 : Nat → List Int → Int → Option (Unit × (List Int))
  | 0, _, _ => none
  | k1 + 1, l1, x1 =>
    ift (decide ((128 : Int) ≤ x1))
      (bnd (some (IntKind.u8.wrap (BitVec.ofInt (IntKind.u8).bits (IntKind.u8.wrap x1) ||| BitVec.ofInt (IntKind.u8).bits (128 : Int)).toNat)) fun y1 =>
       grd (l1.length + 1 ≤ 4294967296) <|
       (column_number_s_l1 k1) (l1 ++ [y1]) (x1.fdiv (2 ^ (min (7 : Int).toNat (IntKind.u64).bits))))
      (column_number_s_j1 l1 x1)

def column_number_s (p1 : Int) (p2 : (List Int)) : Option (Unit × (List Int)) :=
    column_number_s_l1 BIG p2 p1


theorem c_column_number_s (p1 : Int) (p2 : (List Int)) (r : (Unit × (List Int))) (h : column_number_s p1 p2 = some r) : MX Try.prog 57 [.one (.sl 0 1 0 p2.length), vk .u64 p1] [.arr 1 ((eK .u8).els p2)] [0] (.one (.sl 0 1 0 r.2.length)) [.arr 1 ((eK .u8).els r.2)] := by
 unfold column_number_s at h
 refine MX.of 1 1 rfl (n := 20) (fn := Try.f57) (c := cd Try.f57 []) (by kernel_rfl) (by kernel_rfl) (by kernel_rfl) (Nat.le_of_ble_eq_true rfl) rfl (zq fun K1 hK1 => zr (zg [] 1 [0,1] (zd (hK1 _ _ (zq fun K2 hK2 => ?_)))))
 have hJ1 : ∀ (l2 : List Int) (x2 : Int), column_number_s_j1 l2 x2 = some r → ∀ fr1 st1, Sub 20 1 [0] fr1 st1 [(0, .one (.sl 0 1 0 l2.length)), (1, vk .u64 x2)] [.arr 1 ((eK .u8).els l2)] → K2 fr1 st1 := by
  intro l2 x2 h fr1 st1 hS
  unfold column_number_s_j1 at h
  refine hK2 _ _ (XW.sub hS ?_)
  refine zq fun K9 hK9 => ?_
  obtain ⟨g10, h⟩ := zG h
  refine zr (zp [] 5 [19] [] [(19, .one (.sl 0 1 0 (l2.length + ((eK .u8).els [(IntKind.u8.wrap x2)]).length)))] [.arr 1 ((eK .u8).els l2 ++ (eK .u8).els [(IntKind.u8.wrap x2)])] [elemsOk 1 ((eK .u8).els [(IntKind.u8.wrap x2)]), l2.length = ((eK .u8).els l2).length, l2.length + ((eK .u8).els [(IntKind.u8.wrap x2)]).length ≤ 4294967296] (⟨(eK .u8).ok _, ((eK .u8).len l2).symm, g10, trivial⟩) ?_)
  rw [show l2.length + ((eK .u8).els [(IntKind.u8.wrap x2)]).length = (l2 ++ [(IntKind.u8.wrap x2)]).length from (eK .u8).lapp _ _]
  rw [show (eK .u8).els l2 ++ (eK .u8).els [(IntKind.u8.wrap x2)] = (eK .u8).els (l2 ++ [(IntKind.u8.wrap x2)]) from (eK .u8).app2 _ _]
  refine zv [] 1 [4] [] [(4, .one (.sl 0 1 0 ((l2 ++ [(IntKind.u8.wrap x2)]).length)))] [.arr 1 ((eK .u8).els (l2 ++ [(IntKind.u8.wrap x2)]))] (zd (hK9 _ _ (ze ?_)))
  obtain rfl := Option.some.inj h
  exact FinM.fin (.inr rfl) [] [.one (.sl 0 1 0 ((l2 ++ [(IntKind.u8.wrap x2)]).length))] [] (by kernel_rfl) trivial (by kernel_rfl) (by kernel_rfl) (.one (.rfl _ rfl))
 refine zb 0 (XW.rounds' BIG (x := cd Try.f57 [1,0,0,0]) (by kernel_rfl) fun Q1 hQ1 => ?_)
 have hL1 : ∀ (k1 : Nat) (l1 : List Int) (x1 : Int), column_number_s_l1 k1 l1 x1 = some r → XR Try.prog 20 1 [0] (cd Try.f57 [1,0,0,0]) Q1 k1 [(0, .one (.sl 0 1 0 l1.length)), (1, vk .u64 x1)] [.arr 1 ((eK .u8).els l1)] := by
  intro k1
  induction k1 with
  | zero => intro l1 x1 h; rw [column_number_s_l1.eq_1] at h; cases h
  | succ k1 ih1 =>
   intro l1 x1 h
   rw [column_number_s_l1.eq_2] at h
   refine zq fun K3 hK3 => zq fun K4 hK4 => zr (zg [] 2 [0,1,6] (zd (hK4 _ _ (zC h (fun b5 h => ?_) (fun b5 h => ?_)))))
   ·refine zs (hK3 _ _ (zq fun K6 hK6 => zb 1 ?_))
    obtain ⟨y1, hy7, h⟩ := zB h
    obtain ⟨g8, h⟩ := zG h
    refine zr (zv [] 4 [1,9,12] [] [(1, vk .u64 x1), (9, .one (.sl 0 1 0 l1.length)), (12, vk .u8 (IntKind.u8.wrap (BitVec.ofInt (IntKind.u8).bits (IntKind.u8.wrap x1) ||| BitVec.ofInt (IntKind.u8).bits (128 : Int)).toNat))] [.arr 1 ((eK .u8).els l1)] ?_)
    rw [show (IntKind.u8.wrap (BitVec.ofInt (IntKind.u8).bits (IntKind.u8.wrap x1) ||| BitVec.ofInt (IntKind.u8).bits (128 : Int)).toNat) = y1 from Option.some.inj hy7]
    refine zp [] 2 [1,14] [] [(1, vk .u64 x1), (14, .one (.sl 0 1 0 (l1.length + ((eK .u8).els [y1]).length)))] [.arr 1 ((eK .u8).els l1 ++ (eK .u8).els [y1])] [elemsOk 1 ((eK .u8).els [y1]), l1.length = ((eK .u8).els l1).length, l1.length + ((eK .u8).els [y1]).length ≤ 4294967296] (⟨(eK .u8).ok _, ((eK .u8).len l1).symm, g8, trivial⟩) ?_
    rw [show l1.length + ((eK .u8).els [y1]).length = (l1 ++ [y1]).length from (eK .u8).lapp _ _]
    rw [show (eK .u8).els l1 ++ (eK .u8).els [y1] = (eK .u8).els (l1 ++ [y1]) from (eK .u8).app2 _ _]
    exact zg [] 1 [0,1] (zd (hK6 _ _ (zr (zo [] 3 [0,1] [] [0 ≤ (7 : Int)] (⟨by decide, trivial⟩) (zd (XR.sub (zk [0,1]) (ih1 (l1 ++ [y1]) (x1.fdiv (2 ^ (min (7 : Int).toNat (IntKind.u64).bits))) h)))))))
   ·exact zx 0 (hQ1 _ _ _ (hJ1 l1 x1 h _ _ (zk [0,1])))
 exact XR.sub (zk [0,1]) (hL1 BIG p2 p1 h)

def column_signed_s (p1 : Int) (p2 : (List Int)) : Option (Unit × (List Int)) :=
    bnd (some (IntKind.u64.wrap ((IntKind.u64.wrap p1) * 2 ^ (min (1 : Int).toNat (IntKind.u64).bits)))) fun y1 =>
    bnd (some (IntKind.u64.wrap (p1.fdiv (2 ^ (min (63 : Int).toNat (IntKind.i64).bits))))) fun y2 =>
    bnd (some (IntKind.u64.wrap (BitVec.ofInt (IntKind.u64).bits y1 ^^^ BitVec.ofInt (IntKind.u64).bits y2).toNat)) fun y3 =>
    bnd (column_number_s y3 p2) fun r1 =>
    some ((), r1.2)


theorem c_column_signed_s (p1 : Int) (p2 : (List Int)) (r : (Unit × (List Int))) (h : column_signed_s p1 p2 = some r) : MX Try.prog 60 [.one (.sl 0 1 0 p2.length), vi p1] [.arr 1 ((eK .u8).els p2)] [0] (.one (.sl 0 1 0 r.2.length)) [.arr 1 ((eK .u8).els r.2)] := by
 unfold column_signed_s at h
 refine MX.of 1 1 rfl (n := 14) (fn := Try.f60) (c := cd Try.f60 []) (by kernel_rfl) (by kernel_rfl) (by kernel_rfl) (Nat.le_of_ble_eq_true rfl) rfl (zq fun K1 hK1 => zr (zg [] 1 [0,1] (zd (hK1 _ _ (zq fun K2 hK2 => ?_)))))
 obtain ⟨y1, hy3, h⟩ := zB h
 obtain ⟨y2, hy4, h⟩ := zB h
 obtain ⟨y3, hy5, h⟩ := zB h
 obtain ⟨r1, c6, h⟩ := zB h
 refine zr (zp [] 4 [1,5,8] [] [(1, vi p1), (5, .one (.sl 0 1 0 p2.length)), (8, vk .u64 (IntKind.u64.wrap ((IntKind.u64.wrap p1) * 2 ^ (min (1 : Int).toNat (IntKind.u64).bits))))] [.arr 1 ((eK .u8).els p2)] [0 ≤ (1 : Int)] (⟨by decide, trivial⟩) ?_)
 rw [show (IntKind.u64.wrap ((IntKind.u64.wrap p1) * 2 ^ (min (1 : Int).toNat (IntKind.u64).bits))) = y1 from Option.some.inj hy3]
 refine zp [] 3 [5,8,11] [] [(5, .one (.sl 0 1 0 p2.length)), (8, vk .u64 y1), (11, vk .u64 (IntKind.u64.wrap (p1.fdiv (2 ^ (min (63 : Int).toNat (IntKind.i64).bits)))))] [.arr 1 ((eK .u8).els p2)] [0 ≤ (63 : Int)] (⟨by decide, trivial⟩) ?_
 rw [show (IntKind.u64.wrap (p1.fdiv (2 ^ (min (63 : Int).toNat (IntKind.i64).bits)))) = y2 from Option.some.inj hy4]
 refine zv [] 1 [5,12] [] [(5, .one (.sl 0 1 0 p2.length)), (12, vk .u64 (IntKind.u64.wrap (BitVec.ofInt (IntKind.u64).bits y1 ^^^ BitVec.ofInt (IntKind.u64).bits y2).toNat))] [.arr 1 ((eK .u8).els p2)] ?_
 rw [show (IntKind.u64.wrap (BitVec.ofInt (IntKind.u64).bits y1 ^^^ BitVec.ofInt (IntKind.u64).bits y2).toNat) = y3 from Option.some.inj hy5]
 refine XO.calx 57 [.one (.sl 0 1 0 p2.length), vk .u64 y3] [.arr 1 ((eK .u8).els p2)] [.arr 1 ((eK .u8).els r1.2)] [0] (.one (.sl 0 1 0 r1.2.length)) [0] [0] [(13, .one (.sl 0 1 0 r1.2.length)), (5, .j), (12, vk .u64 y3)] [.arr 1 ((eK .u8).els r1.2)] (by kernel_rfl) (c_column_number_s _ _ _ c6) (by kernel_rfl) (by kernel_rfl) (by kernel_rfl) (by kernel_rfl) (by kernel_rfl) (by kernel_rfl) (by kernel_rfl) (zv [] 1 [4] [] [(4, .one (.sl 0 1 0 r1.2.length))] [.arr 1 ((eK .u8).els r1.2)] (zd (hK2 _ _ (ze ?_))))
 obtain rfl := Option.some.inj h
 exact FinM.fin (.inr rfl) [] [.one (.sl 0 1 0 r1.2.length)] [] (by kernel_rfl) trivial (by kernel_rfl) (by kernel_rfl) (.one (.rfl _ rfl))

def column_runs_j2 (rec1 : List Int → Int → Option (List Int)) (p1 : (List Int)) (l1 : List Int) (x1 : Int) (x4 : Int) : Option (List Int) :=
    bnd (column_number_s (IntKind.u64.wrap (IntKind.i64.wrap (x4 - x1))) l1) fun r1 =>
    bnd (at? p1 x1) fun e3 =>
    bnd (column_signed_s e3 r1.2) fun r2 =>
    rec1 r2.2 x4

def column_runs_j1 (rec1 : List Int → Int → Option (List Int)) (rec2 : Int → Option (List Int)) (p1 : (List Int)) (l1 : List Int) (x1 : Int) (x2 : Int) (x3 : Bool) : Option (List Int) :=
    ift x3
      (rec2 (IntKind.i64.wrap (x2 + (1 : Int))))
      (column_runs_j2 rec1 p1 l1 x1 x2)

def column_runs_l2 (rec1 : List Int → Int → Option (List Int)) (p1 : (List Int)) (l1 : List Int) (x1 : Int) : Nat → Int → Option (List Int)
  | 0, _ => none
  | k2 + 1, x2 =>
    ift (decide (x2 < (p1.length : Int)))
      (bnd (at? p1 x2) fun e1 =>
       bnd (at? p1 x1) fun e2 =>
       column_runs_j1 rec1 (column_runs_l2 rec1 p1 l1 x1 k2) p1 l1 x1 x2 (e1 == e2))
      (column_runs_j1 rec1 (column_runs_l2 rec1 p1 l1 x1 k2) p1 l1 x1 x2 false)

def column_runs_j3 (l2 : List Int) : Option (List Int) :=
    some l2

def column_runs_l1 (p1 : (List Int)) : Nat → List Int → Int → Option (List Int)
  | 0, _, _ => none
  | k1 + 1, l1, x1 =>
    ift (decide (x1 < (p1.length : Int)))
      (column_runs_l2 (column_runs_l1 p1 k1) p1 l1 x1 BIG x1)
      (column_runs_j3 l1)

def column_runs (p1 : (List Int)) : Option (List Int) :=
    column_runs_l1 p1 BIG [] (0 : Int)

abbrev qa987 (l1 : List Int) : St := [.arr 1 ((eK .u8).els l1)]
abbrev qa990 (p1 : (List Int)) (x1 : Int) (x4 : Int) (r1 : (Unit × (List Int))) (e3 : Int) : Fr := [(37, vi e3), (36, .one (.pv (.rp (eI.els p1) x1.toNat 0))), (35, vi x1), (34, vl eI p1), (33, .one (.sl 0 1 0 r1.2.length)), (32, vk .u64 (IntKind.u64.wrap (IntKind.i64.wrap (x4 - x1)))), (31, vi (IntKind.i64.wrap (x4 - x1))), (30, vi x1), (29, vi x4), (28, .j), (0, vl eI p1), (3, .j), (4, vi x1), (5, vi x4)]

theorem c_column_runs (p1 : (List Int)) (r : (List Int)) (h : column_runs p1 = some r) : PC Try.prog 52 [vl eI p1] (vl (eK .u8) r) := by
 unfold column_runs at h
 refine zF 41 Try.f52 (zq fun K1 hK1 => zr (zg [] 1 [0] (zd (hK1 _ _ (zq fun K2 hK2 => zr ?_)))))
 refine zg [] 1 [0,3] (zd (hK2 _ _ (zq fun K3 hK3 => ?_)))
 have hJ3 : ∀ (l2 : List Int), column_runs_j3 l2 = some r → ∀ fr1 st1, Sub 41 0 [] fr1 st1 [(3, .one (.sl 0 1 0 l2.length))] [.arr 1 ((eK .u8).els l2)] → K3 fr1 st1 := by
  intro l2 h fr1 st1 hS
  unfold column_runs_j3 at h
  refine hK3 _ _ (XW.sub hS ?_)
  refine zq fun K20 hK20 => zr (zg [] 2 [2] (zd (hK20 _ _ (ze ?_))))
  obtain rfl := Option.some.inj h
  exact zf [.one (.sl 0 1 0 l2.length)] (.one (cf_sl (eK .u8) l2 rfl rfl rfl))
 refine zq fun K4 hK4 => zr (zv [] 1 [0,3,4] [] [(0, vl eI p1), (3, .one (.pv (.s (.slice none 0 0)))), (4, vi (0 : Int))] [] (zd (hK4 _ _ (zb 0 (XW.sub (Sub.list (t := 3) (sz := 1) rfl) (XW.rounds' BIG (x := cd Try.f52 [1,1,0,1,0,0]) (by kernel_rfl) fun Q1 hQ1 => ?_))))))
 have hL1 : ∀ (k1 : Nat) (l1 : List Int) (x1 : Int), column_runs_l1 p1 k1 l1 x1 = some r → XR Try.prog 41 0 [] (cd Try.f52 [1,1,0,1,0,0]) Q1 k1 [(0, vl eI p1), (3, .one (.sl 0 1 0 l1.length)), (4, vi x1)] (qa987 l1) := by
  intro k1
  induction k1 with
  | zero => intro l1 x1 h; rw [column_runs_l1.eq_1] at h; cases h
  | succ k1 ih1 =>
   intro l1 x1 h
   rw [column_runs_l1.eq_2] at h
   refine zq fun K5 hK5 => zq fun K6 hK6 => zr (zv [] 3 [0,3,4,6,8] [] [(0, vl eI p1), (3, .one (.sl 0 1 0 l1.length)), (4, vi x1), (6, vi x1), (8, vi ((eI.els p1).length : Int))] [.arr 1 ((eK .u8).els l1)] ?_)
   rw [eI.len p1]
   refine zg [] 1 [0,3,4,9] (zd (hK6 _ _ (zC h (fun b7 h => ?_) (fun b7 h => ?_))))
   ·refine zs (hK5 _ _ (zb 1 (zq fun K8 hK8 => zr (zv [] 2 [0,3,4,5] [] [(0, vl eI p1), (3, .one (.sl 0 1 0 l1.length)), (4, vi x1), (5, vi x1)] (qa987 l1) (zd (hK8 _ _ ?_))))))
    refine zq fun K9 hK9 => ?_
    have hJ2 : ∀ (x4 : Int), column_runs_j2 (column_runs_l1 p1 k1) p1 l1 x1 x4 = some r → ∀ fr1 st1, Sub 41 0 [] fr1 st1 [(0, vl eI p1), (3, .one (.sl 0 1 0 l1.length)), (4, vi x1), (5, vi x4)] (qa987 l1) → K9 fr1 st1 := by
     intro x4 h fr1 st1 hS
     unfold column_runs_j2 at h
     refine hK9 _ _ (XW.sub hS ?_)
     refine zq fun K16 hK16 => ?_
     obtain ⟨r1, c17, h⟩ := zB h
     obtain ⟨e3, a18, h⟩ := zB h
     obtain ⟨r2, c19, h⟩ := zB h
     refine XW.drwG 10 [0, 1] [([0], []), ([], []), ([], []), ([], []), ([], []), ([0], [0]), ([], []), ([], []), ([], []), ([], [])] (qa990 p1 x1 x4 r1 e3) [.arr 1 ((eK .u8).els r1.2)] (by kernel_rfl) (by kernel_rfl) ?_ ?_
     ·refine zgv 5 [] [(32, vk .u64 (IntKind.u64.wrap (IntKind.i64.wrap (x4 - x1)))), (31, vi (IntKind.i64.wrap (x4 - x1))), (30, vi x1), (29, vi x4), (28, .one (.sl 0 1 0 l1.length)), (0, vl eI p1), (3, .one (.sl 0 1 0 l1.length)), (4, vi x1), (5, vi x4)] ?_
      refine GY.calx 57 [.one (.sl 0 1 0 l1.length), vk .u64 (IntKind.u64.wrap (IntKind.i64.wrap (x4 - x1)))] (qa987 l1) [.arr 1 ((eK .u8).els r1.2)] [0] (.one (.sl 0 1 0 r1.2.length)) [0] [0] [(33, .one (.sl 0 1 0 r1.2.length)), (32, vk .u64 (IntKind.u64.wrap (IntKind.i64.wrap (x4 - x1)))), (31, vi (IntKind.i64.wrap (x4 - x1))), (30, vi x1), (29, vi x4), (28, .j), (0, vl eI p1), (3, .j), (4, vi x1), (5, vi x4)] [0] [.arr 1 ((eK .u8).els r1.2)] (by kernel_rfl) (by kernel_rfl) (c_column_number_s _ _ _ c17) (by kernel_rfl) (by kernel_rfl) (by kernel_rfl) (by kernel_rfl) (by kernel_rfl) (by kernel_rfl) (by kernel_rfl) ?_
      exact GY.go 4 [[pi e3]] (qa990 p1 x1 x4 r1 e3) [0 ≤ x1 ∧ x1 < ((eI.els p1).length : Int) ∧ elemsOk 1 (eI.els p1), (eI.els p1)[x1.toNat]? = some [pi e3]] (by kernel_rfl) (⟨eI.inb a18, (eI.get a18), trivial⟩) (GY.done (by kernel_rfl) (by kernel_rfl))
     refine XO.calx 60 [.one (.sl 0 1 0 r1.2.length), vi e3] [.arr 1 ((eK .u8).els r1.2)] [.arr 1 ((eK .u8).els r2.2)] [0] (.one (.sl 0 1 0 r2.2.length)) [0] [0] [(38, .one (.sl 0 1 0 r2.2.length)), (37, vi e3), (36, .one (.pv (.rp (eI.els p1) x1.toNat 0))), (35, vi x1), (34, vl eI p1), (33, .j), (32, vk .u64 (IntKind.u64.wrap (IntKind.i64.wrap (x4 - x1)))), (31, vi (IntKind.i64.wrap (x4 - x1))), (30, vi x1), (29, vi x4), (28, .j), (0, vl eI p1), (3, .j), (4, vi x1), (5, vi x4)] [.arr 1 ((eK .u8).els r2.2)] (by kernel_rfl) (c_column_signed_s _ _ _ c19) (by kernel_rfl) (by kernel_rfl) (by kernel_rfl) (by kernel_rfl) (by kernel_rfl) (by kernel_rfl) (by kernel_rfl) ?_
     exact zg [] 1 [0,3,5] (zd (hK16 _ _ (zr (zg [] 2 [0,3,4] (zd (XR.sub (zk [0,3,4]) (ih1 r2.2 x4 h)))))))
    refine zb 2 (XW.rounds' BIG (x := cd Try.f52 [1,1,0,1,0,0,1,0,1,0,0,0]) (by kernel_rfl) fun Q2 hQ2 => ?_)
    have hL2 : ∀ (k2 : Nat) (x2 : Int), column_runs_l2 (column_runs_l1 p1 k1) p1 l1 x1 k2 x2 = some r → XR Try.prog 41 0 [] (cd Try.f52 [1,1,0,1,0,0,1,0,1,0,0,0]) Q2 k2 [(0, vl eI p1), (3, .one (.sl 0 1 0 l1.length)), (4, vi x1), (5, vi x2)] (qa987 l1) := by
     intro k2
     induction k2 with
     | zero => intro x2 h; rw [column_runs_l2.eq_1] at h; cases h
     | succ k2 ih2 =>
      intro x2 h
      rw [column_runs_l2.eq_2] at h
      refine zq fun K10 hK10 => zq fun K11 hK11 => ?_
      have hJ1 : ∀ (x3 : Bool), column_runs_j1 (column_runs_l1 p1 k1) (column_runs_l2 (column_runs_l1 p1 k1) p1 l1 x1 k2) p1 l1 x1 x2 x3 = some r → ∀ fr1 st1, Sub 41 0 [] fr1 st1 [(0, vl eI p1), (3, .one (.sl 0 1 0 l1.length)), (4, vi x1), (5, vi x2), (25, vb x3)] (qa987 l1) → K11 fr1 st1 := by
       intro x3 h fr1 st1 hS
       unfold column_runs_j1 at h
       refine hK11 _ _ (XW.sub hS ?_)
       refine zC h (fun b15 h => ?_) (fun b15 h => ?_)
       ·exact zs (hK10 _ _ (zb 3 (zr (zg [] 3 [0,3,4,5] (zd (XR.sub (zk [0,3,4,5]) (ih2 (IntKind.i64.wrap (x2 + (1 : Int))) h)))))))
       ·exact zx 2 (hQ2 _ _ _ (hJ2 x2 h _ _ (zk [0,3,4,5])))
      rcases zW h with ⟨b12, h⟩ | ⟨b12, h⟩
      ·obtain ⟨e1, a13, h⟩ := zB h
       obtain ⟨e2, a14, h⟩ := zB h
       refine zw 13 [(23, vi e2), (22, .one (.pv (.rp (eI.els p1) x1.toNat 0))), (21, vi x1), (20, vl eI p1), (19, vi e1), (18, .one (.pv (.rp (eI.els p1) x2.toNat 0))), (17, vi x2), (16, vl eI p1), (15, vb true), (14, vb (decide (x2 < (p1.length : Int)))), (13, vi (p1.length : Int)), (12, vl eI p1), (11, vi x2), (0, vl eI p1), (3, .one (.sl 0 1 0 l1.length)), (4, vi x1), (5, vi x2)] ?_ ?_
       ·refine zyv 3 [] [(13, vi ((eI.els p1).length : Int)), (12, vl eI p1), (11, vi x2), (0, vl eI p1), (3, .one (.sl 0 1 0 l1.length)), (4, vi x1), (5, vi x2)] ?_
        rw [eI.len p1]
        refine zyv 2 [] [(15, vb (decide (x2 < (p1.length : Int)))), (14, vb (decide (x2 < (p1.length : Int)))), (13, vi (p1.length : Int)), (12, vl eI p1), (11, vi x2), (0, vl eI p1), (3, .one (.sl 0 1 0 l1.length)), (4, vi x1), (5, vi x2)] ?_
        exact DX.eq (fr1 := [(15, vb true), (14, vb (decide (x2 < (p1.length : Int)))), (13, vi (p1.length : Int)), (12, vl eI p1), (11, vi x2), (0, vl eI p1), (3, .one (.sl 0 1 0 l1.length)), (4, vi x1), (5, vi x2)]) (by rw [b12]) (zyo 8 [[pi e1], [pi e2]] [0 ≤ x2 ∧ x2 < ((eI.els p1).length : Int) ∧ elemsOk 1 (eI.els p1), (eI.els p1)[x2.toNat]? = some [pi e1], 0 ≤ x1 ∧ x1 < ((eI.els p1).length : Int) ∧ elemsOk 1 (eI.els p1), (eI.els p1)[x1.toNat]? = some [pi e2]] (⟨eI.inb a13, (eI.get a13), eI.inb a14, (eI.get a14), trivial⟩) zyd)
       exact zg [] 2 [0,3,4,5,25] (zd (hJ1 (e1 == e2) h _ _ (zk [0,3,4,5,25])))
      ·refine zw 13 [(23, .tp []), (22, .tp []), (21, .tp []), (20, .tp []), (19, .tp []), (18, .tp []), (17, .tp []), (16, .tp []), (15, vb false), (14, vb (decide (x2 < (p1.length : Int)))), (13, vi (p1.length : Int)), (12, vl eI p1), (11, vi x2), (0, vl eI p1), (3, .one (.sl 0 1 0 l1.length)), (4, vi x1), (5, vi x2)] ?_ ?_
       ·refine zyv 3 [] [(13, vi ((eI.els p1).length : Int)), (12, vl eI p1), (11, vi x2), (0, vl eI p1), (3, .one (.sl 0 1 0 l1.length)), (4, vi x1), (5, vi x2)] ?_
        rw [eI.len p1]
        refine zyv 2 [] [(15, vb (decide (x2 < (p1.length : Int)))), (14, vb (decide (x2 < (p1.length : Int)))), (13, vi (p1.length : Int)), (12, vl eI p1), (11, vi x2), (0, vl eI p1), (3, .one (.sl 0 1 0 l1.length)), (4, vi x1), (5, vi x2)] ?_
        exact DX.eq (fr1 := [(15, vb false), (14, vb (decide (x2 < (p1.length : Int)))), (13, vi (p1.length : Int)), (12, vl eI p1), (11, vi x2), (0, vl eI p1), (3, .one (.sl 0 1 0 l1.length)), (4, vi x1), (5, vi x2)]) (by rw [b12]) (zyg 8 zyd)
       exact zg [] 2 [0,3,4,5,25] (zd (hJ1 false h _ _ (zk [0,3,4,5,25])))
    exact XR.sub (zk [0,3,4,5]) (hL2 BIG x1 h)
   ·exact zx 0 (hQ1 _ _ _ (hJ3 l1 h _ _ (zk [3])))
 exact XR.sub (zk [0,3,4]) (hL1 BIG [] (0 : Int) h)

def column_delta_1_s (p1 : Int) (p2 : (List Int)) (p3 : (List Int)) : Option (Unit × (List Int)) :=
    ift (p1 == (0 : Int))
      (bnd (at? p2 (0 : Int)) fun e1 =>
       bnd (column_signed_s e1 p3) fun r1 =>
       some ((), r1.2))
      (bnd (at? p2 p1) fun e2 =>
       bnd (at? p2 (IntKind.i64.wrap (p1 - (1 : Int)))) fun e3 =>
       bnd (column_signed_s (IntKind.i64.wrap (e2 - e3)) p3) fun r2 =>
       some ((), r2.2))


theorem c_column_delta_1_s (p1 : Int) (p2 : (List Int)) (p3 : (List Int)) (r : (Unit × (List Int))) (h : column_delta_1_s p1 p2 p3 = some r) : MX Try.prog 79 [.one (.sl 0 1 0 p3.length), vi p1, .one (.pv (.rp [[.ro (eI.els p2)]] 0 0))] [.arr 1 ((eK .u8).els p3)] [0] (.one (.sl 0 1 0 r.2.length)) [.arr 1 ((eK .u8).els r.2)] := by
 unfold column_delta_1_s at h
 refine MX.of 1 1 rfl (n := 25) (fn := Try.f79) (c := cd Try.f79 []) (by kernel_rfl) (by kernel_rfl) (by kernel_rfl) (Nat.le_of_ble_eq_true rfl) rfl (zq fun K1 hK1 => zr (zg [] 1 [0,1,2] (zd (hK1 _ _ (zq fun K2 hK2 => zq fun K3 hK3 => ?_)))))
 refine zr (zg [] 2 [0,1,2,7] (zd (hK3 _ _ (zC h (fun b4 h => ?_) (fun b4 h => ?_)))))
 ·refine zq fun K5 hK5 => ?_
  obtain ⟨e1, a6, h⟩ := zB h
  obtain ⟨r1, c7, h⟩ := zB h
  refine zr (zp [] 4 [8,11] [[.ro (eI.els p2)], [pi e1]] [(8, .one (.sl 0 1 0 p3.length)), (11, vi e1)] [.arr 1 ((eK .u8).els p3)] [([[.ro (eI.els p2)]] : List (List PV))[0]? = some [.ro (eI.els p2)], 0 ≤ (0 : Int) ∧ (0 : Int) < ((eI.els p2).length : Int) ∧ elemsOk 1 (eI.els p2), (eI.els p2)[(0 : Int).toNat]? = some [pi e1]] (⟨rfl, eI.inb a6, (eI.get a6), trivial⟩) ?_)
  refine XO.calx 60 [.one (.sl 0 1 0 p3.length), vi e1] [.arr 1 ((eK .u8).els p3)] [.arr 1 ((eK .u8).els r1.2)] [0] (.one (.sl 0 1 0 r1.2.length)) [0] [0] [(12, .one (.sl 0 1 0 r1.2.length)), (8, .j), (11, vi e1)] [.arr 1 ((eK .u8).els r1.2)] (by kernel_rfl) (c_column_signed_s _ _ _ c7) (by kernel_rfl) (by kernel_rfl) (by kernel_rfl) (by kernel_rfl) (by kernel_rfl) (by kernel_rfl) (by kernel_rfl) (zv [] 1 [5] [] [(5, .one (.sl 0 1 0 r1.2.length))] [.arr 1 ((eK .u8).els r1.2)] (zd (hK5 _ _ (ze ?_))))
  obtain rfl := Option.some.inj h
  exact FinM.fin (.inr rfl) [] [.one (.sl 0 1 0 r1.2.length)] [] (by kernel_rfl) trivial (by kernel_rfl) (by kernel_rfl) (.one (.rfl _ rfl))
 ·refine zs (hK2 _ _ (zq fun K8 hK8 => ?_))
  obtain ⟨e2, a9, h⟩ := zB h
  obtain ⟨e3, a10, h⟩ := zB h
  obtain ⟨r2, c11, h⟩ := zB h
  refine zw 11 [(23, vi (IntKind.i64.wrap (e2 - e3))), (22, vi e3), (21, .one (.pv (.rp (eI.els p2) ((IntKind.i64.wrap (p1 - (1 : Int))).toNat) 0))), (20, vi (IntKind.i64.wrap (p1 - (1 : Int)))), (19, vi p1), (18, vl eI p2), (17, vi e2), (16, .one (.pv (.rp (eI.els p2) p1.toNat 0))), (15, vi p1), (14, vl eI p2), (13, .one (.sl 0 1 0 p3.length)), (0, .one (.sl 0 1 0 p3.length)), (1, vi p1), (2, .one (.pv (.rp [[.ro (eI.els p2)]] 0 0))), (7, vb (p1 == (0 : Int)))] ?_ ?_
  ·exact zyo 11 [[.ro (eI.els p2)], [pi e2], [.ro (eI.els p2)], [pi e3]] [([[.ro (eI.els p2)]] : List (List PV))[0]? = some [.ro (eI.els p2)], 0 ≤ p1 ∧ p1 < ((eI.els p2).length : Int) ∧ elemsOk 1 (eI.els p2), (eI.els p2)[p1.toNat]? = some [pi e2], ([[.ro (eI.els p2)]] : List (List PV))[0]? = some [.ro (eI.els p2)], 0 ≤ (IntKind.i64.wrap (p1 - (1 : Int))) ∧ (IntKind.i64.wrap (p1 - (1 : Int))) < ((eI.els p2).length : Int) ∧ elemsOk 1 (eI.els p2), (eI.els p2)[(IntKind.i64.wrap (p1 - (1 : Int))).toNat]? = some [pi e3]] (⟨rfl, eI.inb a9, (eI.get a9), rfl, eI.inb a10, (eI.get a10), trivial⟩) zyd
  refine XO.calx 60 [.one (.sl 0 1 0 p3.length), vi (IntKind.i64.wrap (e2 - e3))] [.arr 1 ((eK .u8).els p3)] [.arr 1 ((eK .u8).els r2.2)] [0] (.one (.sl 0 1 0 r2.2.length)) [0] [0] [(24, .one (.sl 0 1 0 r2.2.length)), (23, vi (IntKind.i64.wrap (e2 - e3))), (22, vi e3), (21, .one (.pv (.rp (eI.els p2) ((IntKind.i64.wrap (p1 - (1 : Int))).toNat) 0))), (20, vi (IntKind.i64.wrap (p1 - (1 : Int)))), (19, vi p1), (18, vl eI p2), (17, vi e2), (16, .one (.pv (.rp (eI.els p2) p1.toNat 0))), (15, vi p1), (14, vl eI p2), (13, .j), (0, .j), (1, vi p1), (2, .one (.pv (.rp [[.ro (eI.els p2)]] 0 0))), (7, vb (p1 == (0 : Int)))] [.arr 1 ((eK .u8).els r2.2)] (by kernel_rfl) (c_column_signed_s _ _ _ c11) (by kernel_rfl) (by kernel_rfl) (by kernel_rfl) (by kernel_rfl) (by kernel_rfl) (by kernel_rfl) (by kernel_rfl) ?_
  refine zv [] 1 [5] [] [(5, .one (.sl 0 1 0 r2.2.length))] [.arr 1 ((eK .u8).els r2.2)] (zd (hK8 _ _ (ze ?_)))
  obtain rfl := Option.some.inj h
  exact FinM.fin (.inr rfl) [] [.one (.sl 0 1 0 r2.2.length)] [] (by kernel_rfl) trivial (by kernel_rfl) (by kernel_rfl) (.one (.rfl _ rfl))

def column_each_of_column_delta_1_j1 (l2 : List Int) : Option (List Int) :=
    some l2

def column_each_of_column_delta_1_l1 (p1 : (List Int)) (p2 : (List Int)) : Nat → List Int → Int → Option (List Int)
  | 0, _, _ => none
  | k1 + 1, l1, x1 =>
    ift (decide (x1 < (p1.length : Int)))
      (bnd (column_delta_1_s x1 p2 l1) fun r1 =>
       (column_each_of_column_delta_1_l1 p1 p2 k1) r1.2 (IntKind.i64.wrap (x1 + (1 : Int))))
      (column_each_of_column_delta_1_j1 l1)

def column_each_of_column_delta_1 (p1 : (List Int)) (p2 : (List Int)) : Option (List Int) :=
    column_each_of_column_delta_1_l1 p1 p2 BIG [] (0 : Int)


theorem c_column_each_of_column_delta_1 (p1 : (List Int)) (p2 : (List Int)) (r : (List Int)) (h : column_each_of_column_delta_1 p1 p2 = some r) : PC Try.prog 58 [vl eI p1, .one (.fn 79 [.pv (.rp [[.ro (eI.els p2)]] 0 0)])] (vl (eK .u8) r) := by
 unfold column_each_of_column_delta_1 at h
 refine zF 18 Try.f58 (zq fun K1 hK1 => zr (zg [] 1 [0,1] (zd (hK1 _ _ (zq fun K2 hK2 => zr ?_)))))
 refine zg [] 1 [0,1,5] (zd (hK2 _ _ (zq fun K3 hK3 => ?_)))
 have hJ1 : ∀ (l2 : List Int), column_each_of_column_delta_1_j1 l2 = some r → ∀ fr1 st1, Sub 18 0 [] fr1 st1 [(5, .one (.sl 0 1 0 l2.length))] [.arr 1 ((eK .u8).els l2)] → K3 fr1 st1 := by
  intro l2 h fr1 st1 hS
  unfold column_each_of_column_delta_1_j1 at h
  refine hK3 _ _ (XW.sub hS ?_)
  refine zq fun K11 hK11 => zr (zg [] 2 [4] (zd (hK11 _ _ (ze ?_))))
  obtain rfl := Option.some.inj h
  exact zf [.one (.sl 0 1 0 l2.length)] (.one (cf_sl (eK .u8) l2 rfl rfl rfl))
 refine zq fun K4 hK4 => zr (zv [] 2 [1,5,8] [] [(1, .one (.fn 79 [.pv (.rp [[.ro (eI.els p2)]] 0 0)])), (5, .one (.pv (.s (.slice none 0 0)))), (8, vi ((eI.els p1).length : Int))] [] ?_)
 rw [eI.len p1]
 refine zv [] 1 [1,5,8,9] [] [(1, .one (.fn 79 [.pv (.rp [[.ro (eI.els p2)]] 0 0)])), (5, .one (.pv (.s (.slice none 0 0)))), (8, vi (p1.length : Int)), (9, vi (0 : Int))] [] (zd (hK4 _ _ (zb 0 (XW.sub (Sub.list (t := 5) (sz := 1) rfl) (XW.rounds' BIG (x := cd Try.f58 [1,1,0,1,0,0]) (by kernel_rfl) fun Q1 hQ1 => ?_)))))
 have hL1 : ∀ (k1 : Nat) (l1 : List Int) (x1 : Int), column_each_of_column_delta_1_l1 p1 p2 k1 l1 x1 = some r → XR Try.prog 18 0 [] (cd Try.f58 [1,1,0,1,0,0]) Q1 k1 [(1, .one (.fn 79 [.pv (.rp [[.ro (eI.els p2)]] 0 0)])), (5, .one (.sl 0 1 0 l1.length)), (8, vi (p1.length : Int)), (9, vi x1)] [.arr 1 ((eK .u8).els l1)] := by
  intro k1
  induction k1 with
  | zero => intro l1 x1 h; rw [column_each_of_column_delta_1_l1.eq_1] at h; cases h
  | succ k1 ih1 =>
   intro l1 x1 h
   rw [column_each_of_column_delta_1_l1.eq_2] at h
   refine zq fun K5 hK5 => zr (zg [] 1 [1,5,8,9,10] (zd (hK5 _ _ (zq fun K6 hK6 => zC h (fun b7 h => ?_) (fun b7 h => ?_)))))
   ·refine zs (hK6 _ _ (zq fun K8 hK8 => zb 1 (zq fun K9 hK9 => zr (zg [] 2 [1,5,6,8,9] (zd ?_)))))
    refine hK9 _ _ ?_
    obtain ⟨r1, c10, h⟩ := zB h
    refine zr (zv [] 3 [1,8,9,12,13,14] [] [(1, .one (.fn 79 [.pv (.rp [[.ro (eI.els p2)]] 0 0)])), (8, vi (p1.length : Int)), (9, vi x1), (12, .one (.fn 79 [.pv (.rp [[.ro (eI.els p2)]] 0 0)])), (13, .one (.sl 0 1 0 l1.length)), (14, vi x1)] [.arr 1 ((eK .u8).els l1)] ?_)
    refine XO.calx 79 [.one (.sl 0 1 0 l1.length), vi x1, .one (.pv (.rp [[.ro (eI.els p2)]] 0 0))] [.arr 1 ((eK .u8).els l1)] [.arr 1 ((eK .u8).els r1.2)] [0] (.one (.sl 0 1 0 r1.2.length)) [0] [0] [(15, .one (.sl 0 1 0 r1.2.length)), (1, .one (.fn 79 [.pv (.rp [[.ro (eI.els p2)]] 0 0)])), (8, vi (p1.length : Int)), (9, vi x1), (12, .one (.fn 79 [.pv (.rp [[.ro (eI.els p2)]] 0 0)])), (13, .j), (14, vi x1)] [.arr 1 ((eK .u8).els r1.2)] (by kernel_rfl) (c_column_delta_1_s _ _ _ _ c10) (by kernel_rfl) (by kernel_rfl) (by kernel_rfl) (by kernel_rfl) (by kernel_rfl) (by kernel_rfl) (by kernel_rfl) ?_
    exact zg [] 1 [1,5,8,9] (zd (hK8 _ _ (zr (zg [] 2 [1,5,8,9] (zd (XR.sub (zk [1,5,8,9]) (ih1 r1.2 (IntKind.i64.wrap (x1 + (1 : Int))) h)))))))
   ·exact zx 0 (hQ1 _ _ _ (hJ1 l1 h _ _ (zk [5])))
 exact XR.sub (zk [1,5,8,9]) (hL1 BIG [] (0 : Int) h)

def column_delta (p1 : (List Int)) : Option (List Int) :=
    bnd (column_each_of_column_delta_1 p1 p1) fun r1 =>
    some r1


theorem c_column_delta (p1 : (List Int)) (r : (List Int)) (h : column_delta p1 = some r) : PC Try.prog 53 [vl eI p1] (vl (eK .u8) r) := by
 unfold column_delta at h
 refine zF 6 Try.f53 (zq fun K1 hK1 => zr (zg [] 2 [1] (zd (hK1 _ _ (zq fun K2 hK2 => ?_)))))
 obtain ⟨r1, c3, h⟩ := zB h
 refine zr (zu [] 2 [3,4] [[.ro (eI.els p1)]] (zl 58 [vl eI p1, .one (.fn 79 [.pv (.rp [[.ro (eI.els p1)]] 0 0)])] (vl (eK .u8) r1) [(5, vl (eK .u8) r1), (3, vl eI p1), (4, .one (.fn 79 [.pv (.rp [[.ro (eI.els p1)]] 0 0)]))] (c_column_each_of_column_delta_1 _ _ _ c3) (zg [] 1 [2] (zd (hK2 _ _ (ze ?_))))))
 obtain rfl := Option.some.inj h
 exact zf [vl (eK .u8) r1] (.one (.rfl _ rfl))

def slices_Min_int_int_j1 (x3 : Int) : Option Int :=
    some x3

def slices_Min_int_int_l1 (p1 : (List Int)) : Nat → Int → Int → Option Int
  | 0, _, _ => none
  | k1 + 1, x1, x2 =>
    ift (decide (x2 < (p1.length : Int)))
      (bnd (at? p1 x2) fun e2 =>
       (slices_Min_int_int_l1 p1 k1) (if e2 < x1 then e2 else x1) (IntKind.i64.wrap (x2 + (1 : Int))))
      (slices_Min_int_int_j1 x1)

def slices_Min_int_int (p1 : (List Int)) : Option Int :=
    ift (decide ((p1.length : Int) < (1 : Int)))
      (none)
      (bnd (at? p1 (0 : Int)) fun e1 =>
       slices_Min_int_int_l1 p1 BIG e1 (1 : Int))


theorem c_slices_Min_int_int (p1 : (List Int)) (r : Int) (h : slices_Min_int_int p1 = some r) : PC Try.prog 80 [vl eI p1] (vi r) := by
 unfold slices_Min_int_int at h
 refine zF 25 Try.f80 (zq fun K1 hK1 => zr (zg [] 1 [0] (zd (hK1 _ _ (zq fun K2 hK2 => zq fun K3 hK3 => ?_)))))
 refine zr (zv [] 2 [0,6] [] [(0, vl eI p1), (6, vi ((eI.els p1).length : Int))] [] ?_)
 rw [eI.len p1]
 refine zg [] 1 [0,7] (zd (hK3 _ _ (zC h (fun b4 h => ?_) (fun b4 h => ?_))))
 ·cases h
 ·refine zs (hK2 _ _ (zq fun K5 hK5 => ?_))
  obtain ⟨e1, a6, h⟩ := zB h
  refine zr (zo [] 4 [0,3] [[pi e1]] [0 ≤ (0 : Int) ∧ (0 : Int) < ((eI.els p1).length : Int) ∧ elemsOk 1 (eI.els p1), (eI.els p1)[(0 : Int).toNat]? = some [pi e1]] (⟨eI.inb a6, (eI.get a6), trivial⟩) (zd (hK5 _ _ (zq fun K7 hK7 => ?_))))
  have hJ1 : ∀ (x3 : Int), slices_Min_int_int_j1 x3 = some r → ∀ fr1 st1, Sub 25 0 [] fr1 st1 [(3, vi x3)] [] → K7 fr1 st1 := by
   intro x3 h fr1 st1 hS
   unfold slices_Min_int_int_j1 at h
   refine hK7 _ _ (XW.sub hS ?_)
   refine zq fun K14 hK14 => zr (zg [] 2 [2] (zd (hK14 _ _ (ze ?_))))
   obtain rfl := Option.some.inj h
   exact zf [vi x3] (.one (.rfl _ rfl))
  refine zq fun K8 hK8 => zr (zv [] 1 [0,3,4] [] [(0, vl eI p1), (3, vi e1), (4, vi (1 : Int))] [] (zd (hK8 _ _ (zb 0 (XW.rounds' BIG (x := cd Try.f80 [1,1,1,0,1,0,0]) (by kernel_rfl) fun Q1 hQ1 => ?_)))))
  have hL1 : ∀ (k1 : Nat) (x1 : Int) (x2 : Int), slices_Min_int_int_l1 p1 k1 x1 x2 = some r → XR Try.prog 25 0 [] (cd Try.f80 [1,1,1,0,1,0,0]) Q1 k1 [(0, vl eI p1), (3, vi x1), (4, vi x2)] [] := by
   intro k1
   induction k1 with
   | zero => intro x1 x2 h; rw [slices_Min_int_int_l1.eq_1] at h; cases h
   | succ k1 ih1 =>
    intro x1 x2 h
    rw [slices_Min_int_int_l1.eq_2] at h
    refine zq fun K9 hK9 => zq fun K10 hK10 => zr (zv [] 3 [0,3,4,12,14] [] [(0, vl eI p1), (3, vi x1), (4, vi x2), (12, vi x2), (14, vi ((eI.els p1).length : Int))] [] ?_)
    rw [eI.len p1]
    refine zg [] 1 [0,3,4,15] (zd (hK10 _ _ (zC h (fun b11 h => ?_) (fun b11 h => ?_))))
    ·refine zs (hK9 _ _ (zq fun K12 hK12 => zb 1 ?_))
     obtain ⟨e2, a13, h⟩ := zB h
     exact zr (zo [] 7 [0,3,4] [[pi e2]] [0 ≤ x2 ∧ x2 < ((eI.els p1).length : Int) ∧ elemsOk 1 (eI.els p1), (eI.els p1)[x2.toNat]? = some [pi e2]] (⟨eI.inb a13, (eI.get a13), trivial⟩) (zd (hK12 _ _ (zr (zv [] 3 [0,3,4] [] [(0, vl eI p1), (3, vi (if e2 < x1 then e2 else x1)), (4, vi (IntKind.i64.wrap (x2 + (1 : Int))))] [] (zd (XR.sub (zk [0,3,4]) (ih1 (if e2 < x1 then e2 else x1) (IntKind.i64.wrap (x2 + (1 : Int))) h))))))))
    ·exact zx 0 (hQ1 _ _ _ (hJ1 x1 h _ _ (zk [3])))
  exact XR.sub (zk [0,3,4]) (hL1 BIG e1 (1 : Int) h)

def slices_Max_int_int_j1 (x3 : Int) : Option Int :=
    some x3

def slices_Max_int_int_l1 (p1 : (List Int)) : Nat → Int → Int → Option Int
  | 0, _, _ => none
  | k1 + 1, x1, x2 =>
    ift (decide (x2 < (p1.length : Int)))
      (bnd (at? p1 x2) fun e2 =>
       (slices_Max_int_int_l1 p1 k1) (if e2 > x1 then e2 else x1) (IntKind.i64.wrap (x2 + (1 : Int))))
      (slices_Max_int_int_j1 x1)

def slices_Max_int_int (p1 : (List Int)) : Option Int :=
    ift (decide ((p1.length : Int) < (1 : Int)))
      (none)
      (bnd (at? p1 (0 : Int)) fun e1 =>
       slices_Max_int_int_l1 p1 BIG e1 (1 : Int))


theorem c_slices_Max_int_int (p1 : (List Int)) (r : Int) (h : slices_Max_int_int p1 = some r) : PC Try.prog 82 [vl eI p1] (vi r) := by
 unfold slices_Max_int_int at h
 refine zF 25 Try.f82 (zq fun K1 hK1 => zr (zg [] 1 [0] (zd (hK1 _ _ (zq fun K2 hK2 => zq fun K3 hK3 => ?_)))))
 refine zr (zv [] 2 [0,6] [] [(0, vl eI p1), (6, vi ((eI.els p1).length : Int))] [] ?_)
 rw [eI.len p1]
 refine zg [] 1 [0,7] (zd (hK3 _ _ (zC h (fun b4 h => ?_) (fun b4 h => ?_))))
 ·cases h
 ·refine zs (hK2 _ _ (zq fun K5 hK5 => ?_))
  obtain ⟨e1, a6, h⟩ := zB h
  refine zr (zo [] 4 [0,3] [[pi e1]] [0 ≤ (0 : Int) ∧ (0 : Int) < ((eI.els p1).length : Int) ∧ elemsOk 1 (eI.els p1), (eI.els p1)[(0 : Int).toNat]? = some [pi e1]] (⟨eI.inb a6, (eI.get a6), trivial⟩) (zd (hK5 _ _ (zq fun K7 hK7 => ?_))))
  have hJ1 : ∀ (x3 : Int), slices_Max_int_int_j1 x3 = some r → ∀ fr1 st1, Sub 25 0 [] fr1 st1 [(3, vi x3)] [] → K7 fr1 st1 := by
   intro x3 h fr1 st1 hS
   unfold slices_Max_int_int_j1 at h
   refine hK7 _ _ (XW.sub hS ?_)
   refine zq fun K14 hK14 => zr (zg [] 2 [2] (zd (hK14 _ _ (ze ?_))))
   obtain rfl := Option.some.inj h
   exact zf [vi x3] (.one (.rfl _ rfl))
  refine zq fun K8 hK8 => zr (zv [] 1 [0,3,4] [] [(0, vl eI p1), (3, vi e1), (4, vi (1 : Int))] [] (zd (hK8 _ _ (zb 0 (XW.rounds' BIG (x := cd Try.f82 [1,1,1,0,1,0,0]) (by kernel_rfl) fun Q1 hQ1 => ?_)))))
  have hL1 : ∀ (k1 : Nat) (x1 : Int) (x2 : Int), slices_Max_int_int_l1 p1 k1 x1 x2 = some r → XR Try.prog 25 0 [] (cd Try.f82 [1,1,1,0,1,0,0]) Q1 k1 [(0, vl eI p1), (3, vi x1), (4, vi x2)] [] := by
   intro k1
   induction k1 with
   | zero => intro x1 x2 h; rw [slices_Max_int_int_l1.eq_1] at h; cases h
   | succ k1 ih1 =>
    intro x1 x2 h
    rw [slices_Max_int_int_l1.eq_2] at h
    refine zq fun K9 hK9 => zq fun K10 hK10 => zr (zv [] 3 [0,3,4,12,14] [] [(0, vl eI p1), (3, vi x1), (4, vi x2), (12, vi x2), (14, vi ((eI.els p1).length : Int))] [] ?_)
    rw [eI.len p1]
    refine zg [] 1 [0,3,4,15] (zd (hK10 _ _ (zC h (fun b11 h => ?_) (fun b11 h => ?_))))
    ·refine zs (hK9 _ _ (zq fun K12 hK12 => zb 1 ?_))
     obtain ⟨e2, a13, h⟩ := zB h
     exact zr (zo [] 7 [0,3,4] [[pi e2]] [0 ≤ x2 ∧ x2 < ((eI.els p1).length : Int) ∧ elemsOk 1 (eI.els p1), (eI.els p1)[x2.toNat]? = some [pi e2]] (⟨eI.inb a13, (eI.get a13), trivial⟩) (zd (hK12 _ _ (zr (zv [] 3 [0,3,4] [] [(0, vl eI p1), (3, vi (if e2 > x1 then e2 else x1)), (4, vi (IntKind.i64.wrap (x2 + (1 : Int))))] [] (zd (XR.sub (zk [0,3,4]) (ih1 (if e2 > x1 then e2 else x1) (IntKind.i64.wrap (x2 + (1 : Int))) h))))))))
    ·exact zx 0 (hQ1 _ _ _ (hJ1 x1 h _ _ (zk [3])))
  exact XR.sub (zk [0,3,4]) (hL1 BIG e1 (1 : Int) h)

def math_bits_Len64_j3 (x5 : Int) (x6 : Int) : Option Int :=
    grd (0 ≤ (IntKind.u8.wrap x5) ∧ (IntKind.u8.wrap x5) < ((ByteArray.mk #[0, 1, 2, 2, 3, 3, 3, 3, 4, 4, 4, 4, 4, 4, 4, 4, 5, 5, 5, 5, 5, 5, 5, 5, 5, 5, 5, 5, 5, 5, 5, 5, 6, 6, 6, 6, 6, 6, 6, 6, 6, 6, 6, 6, 6, 6, 6, 6, 6, 6, 6, 6, 6, 6, 6, 6, 6, 6, 6, 6, 6, 6, 6, 6, 7, 7, 7, 7, 7, 7, 7, 7, 7, 7, 7, 7, 7, 7, 7, 7, 7, 7, 7, 7, 7, 7, 7, 7, 7, 7, 7, 7, 7, 7, 7, 7, 7, 7, 7, 7, 7, 7, 7, 7, 7, 7, 7, 7, 7, 7, 7, 7, 7, 7, 7, 7, 7, 7, 7, 7, 7, 7, 7, 7, 7, 7, 7, 7, 8, 8, 8, 8, 8, 8, 8, 8, 8, 8, 8, 8, 8, 8, 8, 8, 8, 8, 8, 8, 8, 8, 8, 8, 8, 8, 8, 8, 8, 8, 8, 8, 8, 8, 8, 8, 8, 8, 8, 8, 8, 8, 8, 8, 8, 8, 8, 8, 8, 8, 8, 8, 8, 8, 8, 8, 8, 8, 8, 8, 8, 8, 8, 8, 8, 8, 8, 8, 8, 8, 8, 8, 8, 8, 8, 8, 8, 8, 8, 8, 8, 8, 8, 8, 8, 8, 8, 8, 8, 8, 8, 8, 8, 8, 8, 8, 8, 8, 8, 8, 8, 8, 8, 8, 8, 8, 8, 8, 8, 8, 8, 8, 8, 8, 8, 8, 8, 8, 8, 8, 8, 8, 8, 8, 8, 8, 8, 8]).size : Int)) <|
    bnd (some (((ByteArray.mk #[0, 1, 2, 2, 3, 3, 3, 3, 4, 4, 4, 4, 4, 4, 4, 4, 5, 5, 5, 5, 5, 5, 5, 5, 5, 5, 5, 5, 5, 5, 5, 5, 6, 6, 6, 6, 6, 6, 6, 6, 6, 6, 6, 6, 6, 6, 6, 6, 6, 6, 6, 6, 6, 6, 6, 6, 6, 6, 6, 6, 6, 6, 6, 6, 7, 7, 7, 7, 7, 7, 7, 7, 7, 7, 7, 7, 7, 7, 7, 7, 7, 7, 7, 7, 7, 7, 7, 7, 7, 7, 7, 7, 7, 7, 7, 7, 7, 7, 7, 7, 7, 7, 7, 7, 7, 7, 7, 7, 7, 7, 7, 7, 7, 7, 7, 7, 7, 7, 7, 7, 7, 7, 7, 7, 7, 7, 7, 7, 8, 8, 8, 8, 8, 8, 8, 8, 8, 8, 8, 8, 8, 8, 8, 8, 8, 8, 8, 8, 8, 8, 8, 8, 8, 8, 8, 8, 8, 8, 8, 8, 8, 8, 8, 8, 8, 8, 8, 8, 8, 8, 8, 8, 8, 8, 8, 8, 8, 8, 8, 8, 8, 8, 8, 8, 8, 8, 8, 8, 8, 8, 8, 8, 8, 8, 8, 8, 8, 8, 8, 8, 8, 8, 8, 8, 8, 8, 8, 8, 8, 8, 8, 8, 8, 8, 8, 8, 8, 8, 8, 8, 8, 8, 8, 8, 8, 8, 8, 8, 8, 8, 8, 8, 8, 8, 8, 8, 8, 8, 8, 8, 8, 8, 8, 8, 8, 8, 8, 8, 8, 8, 8, 8, 8, 8, 8, 8]).data.toList.getD (IntKind.u8.wrap x5).toNat 0).toNat : Int)) fun y1 =>
    some (IntKind.i64.wrap (x6 + (IntKind.i64.wrap y1)))

def math_bits_Len64_j2 (x3 : Int) (x4 : Int) : Option Int :=
    ift (decide ((256 : Int) ≤ x3))
      (math_bits_Len64_j3 (x3.fdiv (2 ^ (min (8 : Int).toNat (IntKind.u64).bits))) (IntKind.i64.wrap (x4 + (8 : Int))))
      (math_bits_Len64_j3 x3 x4)

def math_bits_Len64_j1 (x1 : Int) (x2 : Int) : Option Int :=
    ift (decide ((65536 : Int) ≤ x1))
      (math_bits_Len64_j2 (x1.fdiv (2 ^ (min (16 : Int).toNat (IntKind.u64).bits))) (IntKind.i64.wrap (x2 + (16 : Int))))
      (math_bits_Len64_j2 x1 x2)

def math_bits_Len64 (p1 : Int) : Option Int :=
    ift (decide ((4294967296 : Int) ≤ p1))
      (math_bits_Len64_j1 (p1.fdiv (2 ^ (min (32 : Int).toNat (IntKind.u64).bits))) (32 : Int))
      (math_bits_Len64_j1 p1 (0 : Int))


theorem c_math_bits_Len64 (p1 : Int) (r : Int) (h : math_bits_Len64 p1 = some r) : PC Try.prog 81 [vk .u64 p1] (vi r) := by
 unfold math_bits_Len64 at h
 refine zF 25 Try.f81 (zq fun K1 hK1 => zr (zg [] 1 [0,2] (zd (hK1 _ _ (zq fun K2 hK2 => ?_)))))
 have hJ1 : ∀ (x1 : Int) (x2 : Int), math_bits_Len64_j1 x1 x2 = some r → ∀ fr1 st1, Sub 25 0 [] fr1 st1 [(0, vk .u64 x1), (2, vi x2)] [] → K2 fr1 st1 := by
  intro x1 x2 h fr1 st1 hS
  unfold math_bits_Len64_j1 at h
  refine hK2 _ _ (XW.sub hS ?_)
  refine zq fun K6 hK6 => ?_
  have hJ2 : ∀ (x3 : Int) (x4 : Int), math_bits_Len64_j2 x3 x4 = some r → ∀ fr1 st1, Sub 25 0 [] fr1 st1 [(0, vk .u64 x3), (2, vi x4)] [] → K6 fr1 st1 := by
   intro x3 x4 h fr1 st1 hS
   unfold math_bits_Len64_j2 at h
   refine hK6 _ _ (XW.sub hS ?_)
   refine zq fun K10 hK10 => ?_
   have hJ3 : ∀ (x5 : Int) (x6 : Int), math_bits_Len64_j3 x5 x6 = some r → ∀ fr1 st1, Sub 25 0 [] fr1 st1 [(0, vk .u64 x5), (2, vi x6)] [] → K10 fr1 st1 := by
    intro x5 x6 h fr1 st1 hS
    unfold math_bits_Len64_j3 at h
    refine hK10 _ _ (XW.sub hS ?_)
    refine zq fun K14 hK14 => ?_
    obtain ⟨g15, h⟩ := zG h
    obtain ⟨y1, hy16, h⟩ := zB h
    refine zr ?_
    refine zp [] 4 [19,22] [] [(19, vi x6), (22, vk .u8 (((ByteArray.mk #[0, 1, 2, 2, 3, 3, 3, 3, 4, 4, 4, 4, 4, 4, 4, 4, 5, 5, 5, 5, 5, 5, 5, 5, 5, 5, 5, 5, 5, 5, 5, 5, 6, 6, 6, 6, 6, 6, 6, 6, 6, 6, 6, 6, 6, 6, 6, 6, 6, 6, 6, 6, 6, 6, 6, 6, 6, 6, 6, 6, 6, 6, 6, 6, 7, 7, 7, 7, 7, 7, 7, 7, 7, 7, 7, 7, 7, 7, 7, 7, 7, 7, 7, 7, 7, 7, 7, 7, 7, 7, 7, 7, 7, 7, 7, 7, 7, 7, 7, 7, 7, 7, 7, 7, 7, 7, 7, 7, 7, 7, 7, 7, 7, 7, 7, 7, 7, 7, 7, 7, 7, 7, 7, 7, 7, 7, 7, 7, 8, 8, 8, 8, 8, 8, 8, 8, 8, 8, 8, 8, 8, 8, 8, 8, 8, 8, 8, 8, 8, 8, 8, 8, 8, 8, 8, 8, 8, 8, 8, 8, 8, 8, 8, 8, 8, 8, 8, 8, 8, 8, 8, 8, 8, 8, 8, 8, 8, 8, 8, 8, 8, 8, 8, 8, 8, 8, 8, 8, 8, 8, 8, 8, 8, 8, 8, 8, 8, 8, 8, 8, 8, 8, 8, 8, 8, 8, 8, 8, 8, 8, 8, 8, 8, 8, 8, 8, 8, 8, 8, 8, 8, 8, 8, 8, 8, 8, 8, 8, 8, 8, 8, 8, 8, 8, 8, 8, 8, 8, 8, 8, 8, 8, 8, 8, 8, 8, 8, 8, 8, 8, 8, 8, 8, 8, 8, 8]).data.toList.getD (IntKind.u8.wrap x5).toNat 0).toNat : Int))] [] [0 ≤ (IntKind.u8.wrap x5) ∧ (IntKind.u8.wrap x5) < ((ByteArray.mk #[0, 1, 2, 2, 3, 3, 3, 3, 4, 4, 4, 4, 4, 4, 4, 4, 5, 5, 5, 5, 5, 5, 5, 5, 5, 5, 5, 5, 5, 5, 5, 5, 6, 6, 6, 6, 6, 6, 6, 6, 6, 6, 6, 6, 6, 6, 6, 6, 6, 6, 6, 6, 6, 6, 6, 6, 6, 6, 6, 6, 6, 6, 6, 6, 7, 7, 7, 7, 7, 7, 7, 7, 7, 7, 7, 7, 7, 7, 7, 7, 7, 7, 7, 7, 7, 7, 7, 7, 7, 7, 7, 7, 7, 7, 7, 7, 7, 7, 7, 7, 7, 7, 7, 7, 7, 7, 7, 7, 7, 7, 7, 7, 7, 7, 7, 7, 7, 7, 7, 7, 7, 7, 7, 7, 7, 7, 7, 7, 8, 8, 8, 8, 8, 8, 8, 8, 8, 8, 8, 8, 8, 8, 8, 8, 8, 8, 8, 8, 8, 8, 8, 8, 8, 8, 8, 8, 8, 8, 8, 8, 8, 8, 8, 8, 8, 8, 8, 8, 8, 8, 8, 8, 8, 8, 8, 8, 8, 8, 8, 8, 8, 8, 8, 8, 8, 8, 8, 8, 8, 8, 8, 8, 8, 8, 8, 8, 8, 8, 8, 8, 8, 8, 8, 8, 8, 8, 8, 8, 8, 8, 8, 8, 8, 8, 8, 8, 8, 8, 8, 8, 8, 8, 8, 8, 8, 8, 8, 8, 8, 8, 8, 8, 8, 8, 8, 8, 8, 8, 8, 8, 8, 8, 8, 8, 8, 8, 8, 8, 8, 8, 8, 8, 8, 8, 8, 8]).size : Int)] (⟨g15, trivial⟩) ?_
    rw [show (((ByteArray.mk #[0, 1, 2, 2, 3, 3, 3, 3, 4, 4, 4, 4, 4, 4, 4, 4, 5, 5, 5, 5, 5, 5, 5, 5, 5, 5, 5, 5, 5, 5, 5, 5, 6, 6, 6, 6, 6, 6, 6, 6, 6, 6, 6, 6, 6, 6, 6, 6, 6, 6, 6, 6, 6, 6, 6, 6, 6, 6, 6, 6, 6, 6, 6, 6, 7, 7, 7, 7, 7, 7, 7, 7, 7, 7, 7, 7, 7, 7, 7, 7, 7, 7, 7, 7, 7, 7, 7, 7, 7, 7, 7, 7, 7, 7, 7, 7, 7, 7, 7, 7, 7, 7, 7, 7, 7, 7, 7, 7, 7, 7, 7, 7, 7, 7, 7, 7, 7, 7, 7, 7, 7, 7, 7, 7, 7, 7, 7, 7, 8, 8, 8, 8, 8, 8, 8, 8, 8, 8, 8, 8, 8, 8, 8, 8, 8, 8, 8, 8, 8, 8, 8, 8, 8, 8, 8, 8, 8, 8, 8, 8, 8, 8, 8, 8, 8, 8, 8, 8, 8, 8, 8, 8, 8, 8, 8, 8, 8, 8, 8, 8, 8, 8, 8, 8, 8, 8, 8, 8, 8, 8, 8, 8, 8, 8, 8, 8, 8, 8, 8, 8, 8, 8, 8, 8, 8, 8, 8, 8, 8, 8, 8, 8, 8, 8, 8, 8, 8, 8, 8, 8, 8, 8, 8, 8, 8, 8, 8, 8, 8, 8, 8, 8, 8, 8, 8, 8, 8, 8, 8, 8, 8, 8, 8, 8, 8, 8, 8, 8, 8, 8, 8, 8, 8, 8, 8, 8]).data.toList.getD (IntKind.u8.wrap x5).toNat 0).toNat : Int) = y1 from Option.some.inj hy16]
    refine zg [] 3 [2] (zd (hK14 _ _ (ze ?_)))
    obtain rfl := Option.some.inj h
    exact zf [vi (IntKind.i64.wrap (x6 + (IntKind.i64.wrap y1)))] (.one (.rfl _ rfl))
   refine zq fun K11 hK11 => zr (zg [] 2 [0,2,14] (zd (hK11 _ _ (zC h (fun b12 h => ?_) (fun b12 h => ?_)))))
   ·refine zq fun K13 hK13 => zr (zo [] 3 [0,2] [] [0 ≤ (8 : Int)] (⟨by decide, trivial⟩) (zd (hK13 _ _ (zr (zv [] 3 [0,2] [] [(0, vk .u64 (x3.fdiv (2 ^ (min (8 : Int).toNat (IntKind.u64).bits)))), (2, vi (IntKind.i64.wrap (x4 + (8 : Int))))] [] (zd ?_))))))
    exact hJ3 (x3.fdiv (2 ^ (min (8 : Int).toNat (IntKind.u64).bits))) (IntKind.i64.wrap (x4 + (8 : Int))) h _ _ (zk [0,2])
   ·exact zs (hJ3 x3 x4 h _ _ (zk [0,2]))
  refine zq fun K7 hK7 => zr (zg [] 2 [0,2,8] (zd (hK7 _ _ (zC h (fun b8 h => ?_) (fun b8 h => ?_)))))
  ·refine zq fun K9 hK9 => zr (zo [] 3 [0,2] [] [0 ≤ (16 : Int)] (⟨by decide, trivial⟩) (zd (hK9 _ _ (zr (zv [] 3 [0,2] [] [(0, vk .u64 (x1.fdiv (2 ^ (min (16 : Int).toNat (IntKind.u64).bits)))), (2, vi (IntKind.i64.wrap (x2 + (16 : Int))))] [] (zd ?_))))))
   exact hJ2 (x1.fdiv (2 ^ (min (16 : Int).toNat (IntKind.u64).bits))) (IntKind.i64.wrap (x2 + (16 : Int))) h _ _ (zk [0,2])
  ·exact zs (hJ2 x1 x2 h _ _ (zk [0,2]))
 refine zq fun K3 hK3 => zr (zg [] 2 [0,2,4] (zd (hK3 _ _ (zC h (fun b4 h => ?_) (fun b4 h => ?_)))))
 ·refine zq fun K5 hK5 => zr (zp [] 3 [0] [] [(0, vk .u64 (p1.fdiv (2 ^ (min (32 : Int).toNat (IntKind.u64).bits))))] [] [0 ≤ (32 : Int)] (⟨by decide, trivial⟩) (zd (hK5 _ _ (zr (zg [] 1 [0,2] (zd ?_))))))
  exact hJ1 (p1.fdiv (2 ^ (min (32 : Int).toNat (IntKind.u64).bits))) (32 : Int) h _ _ (zk [0,2])
 ·exact zs (hJ1 p1 (0 : Int) h _ _ (zk [0,2]))

def column_signed_s_2 (p1 : Int) : Option (List Int) :=
    bnd (some (IntKind.u64.wrap ((IntKind.u64.wrap p1) * 2 ^ (min (1 : Int).toNat (IntKind.u64).bits)))) fun y1 =>
    bnd (some (IntKind.u64.wrap (p1.fdiv (2 ^ (min (63 : Int).toNat (IntKind.i64).bits))))) fun y2 =>
    bnd (some (IntKind.u64.wrap (BitVec.ofInt (IntKind.u64).bits y1 ^^^ BitVec.ofInt (IntKind.u64).bits y2).toNat)) fun y3 =>
    bnd (column_number_s y3 []) fun r1 =>
    some r1.2


theorem c_column_signed_s_2 (p1 : Int) (r : (List Int)) (h : column_signed_s_2 p1 = some r) : MX Try.prog 60 [.one (.pv (.s (.slice none 0 0))), vi p1] [] [] (.one (.sl 0 1 0 r.length)) [.arr 1 ((eK .u8).els r)] := by
 unfold column_signed_s_2 at h
 refine MX.of 0 1 rfl (n := 14) (fn := Try.f60) (c := cd Try.f60 []) (by kernel_rfl) (by kernel_rfl) (by kernel_rfl) (Nat.le_of_ble_eq_true rfl) rfl (zq fun K1 hK1 => zr (zg [] 1 [0,1] (zd (hK1 _ _ (zq fun K2 hK2 => ?_)))))
 obtain ⟨y1, hy3, h⟩ := zB h
 obtain ⟨y2, hy4, h⟩ := zB h
 obtain ⟨y3, hy5, h⟩ := zB h
 obtain ⟨r1, c6, h⟩ := zB h
 refine zr (zp [] 4 [1,5,8] [] [(1, vi p1), (5, .one (.pv (.s (.slice none 0 0)))), (8, vk .u64 (IntKind.u64.wrap ((IntKind.u64.wrap p1) * 2 ^ (min (1 : Int).toNat (IntKind.u64).bits))))] [] [0 ≤ (1 : Int)] (⟨by decide, trivial⟩) ?_)
 rw [show (IntKind.u64.wrap ((IntKind.u64.wrap p1) * 2 ^ (min (1 : Int).toNat (IntKind.u64).bits))) = y1 from Option.some.inj hy3]
 refine zp [] 3 [5,8,11] [] [(5, .one (.pv (.s (.slice none 0 0)))), (8, vk .u64 y1), (11, vk .u64 (IntKind.u64.wrap (p1.fdiv (2 ^ (min (63 : Int).toNat (IntKind.i64).bits)))))] [] [0 ≤ (63 : Int)] (⟨by decide, trivial⟩) ?_
 rw [show (IntKind.u64.wrap (p1.fdiv (2 ^ (min (63 : Int).toNat (IntKind.i64).bits)))) = y2 from Option.some.inj hy4]
 refine zv [] 1 [5,12] [] [(5, .one (.pv (.s (.slice none 0 0)))), (12, vk .u64 (IntKind.u64.wrap (BitVec.ofInt (IntKind.u64).bits y1 ^^^ BitVec.ofInt (IntKind.u64).bits y2).toNat))] [] ?_
 rw [show (IntKind.u64.wrap (BitVec.ofInt (IntKind.u64).bits y1 ^^^ BitVec.ofInt (IntKind.u64).bits y2).toNat) = y3 from Option.some.inj hy5]
 refine XO.sub (Sub.list (t := 5) (sz := 1) rfl) (XO.calx 57 [.one (.sl 0 1 0 0), vk .u64 y3] [.arr 1 ((eK .u8).els [])] [.arr 1 ((eK .u8).els r1.2)] [0] (.one (.sl 0 1 0 r1.2.length)) [0] [0] [(13, .one (.sl 0 1 0 r1.2.length)), (5, .j), (5, .one (.pv (.s (.slice none 0 0)))), (12, vk .u64 y3)] [.arr 1 ((eK .u8).els r1.2)] (by kernel_rfl) (c_column_number_s _ _ _ c6) (by kernel_rfl) (by kernel_rfl) (by kernel_rfl) (by kernel_rfl) (by kernel_rfl) (by kernel_rfl) (by kernel_rfl) (zv [] 1 [4] [] [(4, .one (.sl 0 1 0 r1.2.length))] [.arr 1 ((eK .u8).els r1.2)] (zd (hK2 _ _ (ze ?_)))))
 obtain rfl := Option.some.inj h
 exact FinM.fin (.inr rfl) [] [.one (.sl 0 1 0 r1.2.length)] [] (by kernel_rfl) trivial (by kernel_rfl) (by kernel_rfl) (.one (.rfl _ rfl))

def column_pack_j1 (rec2 : List Int → Int → Option (List Int)) (x2 : Int) (l3 : List Int) : Option (List Int) :=
    rec2 l3 (IntKind.i64.wrap (x2 + (1 : Int)))

def column_pack_j2 (rec1 : List Int → Int → Option (List Int)) (x1 : Int) (l4 : List Int) : Option (List Int) :=
    rec1 l4 (IntKind.i64.wrap (x1 + (1 : Int)))

def column_pack_l2 (rec1 : List Int → Int → Option (List Int)) (p1 : Int) (x1 : Int) (e1 : Int) : Nat → List Int → Int → Option (List Int)
  | 0, _, _ => none
  | k2 + 1, l2, x2 =>
    ift (decide (x2 < p1))
      (grd (0 ≤ x2) <|
       bnd (some (IntKind.i64.wrap (BitVec.ofInt (IntKind.i64).bits (e1.fdiv (2 ^ (min x2.toNat (IntKind.i64).bits))) &&& BitVec.ofInt (IntKind.i64).bits (1 : Int)).toNat)) fun y2 =>
       ift (y2 == (1 : Int))
         (bnd (some (IntKind.i64.wrap ((IntKind.i64.wrap ((IntKind.i64.wrap (x1 * p1)) + x2)).tdiv (8 : Int)))) fun y3 =>
          bnd (at? l2 y3) fun e2 =>
          bnd (some ((IntKind.i64.wrap ((IntKind.i64.wrap (x1 * p1)) + x2)).tmod (8 : Int))) fun y4 =>
          grd (0 ≤ y4) <|
          bnd (some (IntKind.u8.wrap (BitVec.ofInt (IntKind.u8).bits e2 ||| BitVec.ofInt (IntKind.u8).bits (IntKind.u8.wrap ((1 : Int) * 2 ^ (min y4.toNat (IntKind.u8).bits)))).toNat)) fun y5 =>
          column_pack_j1 (column_pack_l2 rec1 p1 x1 e1 k2) x2 (l2.set y3.toNat y5))
         (column_pack_j1 (column_pack_l2 rec1 p1 x1 e1 k2) x2 l2))
      (column_pack_j2 rec1 x1 l2)

def column_pack_j3 (l5 : List Int) : Option (List Int) :=
    some l5

def column_pack_l1 (p1 : Int) (p2 : (List Int)) : Nat → List Int → Int → Option (List Int)
  | 0, _, _ => none
  | k1 + 1, l1, x1 =>
    ift (decide (x1 < (p2.length : Int)))
      (bnd (at? p2 x1) fun e1 =>
       column_pack_l2 (column_pack_l1 p1 p2 k1) p1 x1 e1 BIG l1 (0 : Int))
      (column_pack_j3 l1)

def column_pack (p1 : Int) (p2 : (List Int)) : Option (List Int) :=
    bnd (some (IntKind.i64.wrap ((IntKind.i64.wrap ((p2.length : Int) * p1)) + (7 : Int)))) fun y1 =>
    grd (0 ≤ (IntKind.i64.wrap (y1.tdiv (8 : Int))) ∧ (IntKind.i64.wrap (y1.tdiv (8 : Int))) ≤ (IntKind.i64.wrap (y1.tdiv (8 : Int))) ∧ (IntKind.i64.wrap (y1.tdiv (8 : Int))) ≤ 4294967296) <|
    column_pack_l1 p1 p2 BIG (List.replicate (IntKind.i64.wrap (y1.tdiv (8 : Int))).toNat (0 : Int)) (0 : Int)


theorem c_column_pack (p1 : Int) (p2 : (List Int)) (r : (List Int)) (h : column_pack p1 p2 = some r) : PC Try.prog 72 [vi p1, vl eI p2] (vl (eK .u8) r) := by
 unfold column_pack at h
 refine zF 53 Try.f72 (zq fun K1 hK1 => zr (zg [] 1 [0,1] (zd (hK1 _ _ (zq fun K2 hK2 => ?_)))))
 obtain ⟨y1, hy3, h⟩ := zB h
 obtain ⟨g5, h⟩ := zG h
 refine zr (zv [] 2 [0,1,10] [] [(0, vi p1), (1, vl eI p2), (10, vi ((eI.els p2).length : Int))] [] ?_)
 rw [eI.len p2]
 refine zv [] 3 [0,1,13] [] [(0, vi p1), (1, vl eI p2), (13, vi (IntKind.i64.wrap ((IntKind.i64.wrap ((p2.length : Int) * p1)) + (7 : Int))))] [] ?_
 rw [show (IntKind.i64.wrap ((IntKind.i64.wrap ((p2.length : Int) * p1)) + (7 : Int))) = y1 from Option.some.inj hy3]
 refine zp [] 2 [0,1,15] [] [(0, vi p1), (1, vl eI p2), (15, .one (.sl 0 1 0 ((IntKind.i64.wrap (y1.tdiv (8 : Int))).toNat)))] [.arr 1 (List.replicate (IntKind.i64.wrap (y1.tdiv (8 : Int))).toNat [.s (.int .u8 (0 : Int))])] [(8 : Int) ≠ 0, 0 ≤ (IntKind.i64.wrap (y1.tdiv (8 : Int))), (IntKind.i64.wrap (y1.tdiv (8 : Int))) ≤ (IntKind.i64.wrap (y1.tdiv (8 : Int))), (IntKind.i64.wrap (y1.tdiv (8 : Int))) ≤ 4294967296] (⟨by decide, g5.1, g5.2.1, g5.2.2, trivial⟩) ?_
 rw [show List.replicate (IntKind.i64.wrap (y1.tdiv (8 : Int))).toNat [.s (.int .u8 (0 : Int))] = (eK .u8).els (List.replicate (IntKind.i64.wrap (y1.tdiv (8 : Int))).toNat (0 : Int)) from (eK .u8).rep _ (0 : Int)]
 refine zg [] 1 [0,1,5] (zd (hK2 _ _ (zq fun K6 hK6 => ?_)))
 have hJ3 : ∀ (l5 : List Int), column_pack_j3 l5 = some r → ∀ fr1 st1, Sub 53 0 [] fr1 st1 [(5, .one (.sl 0 1 0 l5.length))] [.arr 1 ((eK .u8).els l5)] → K6 fr1 st1 := by
  intro l5 h fr1 st1 hS
  unfold column_pack_j3 at h
  refine hK6 _ _ (XW.sub hS ?_)
  refine zq fun K29 hK29 => zr (zg [] 2 [4] (zd (hK29 _ _ (ze ?_))))
  obtain rfl := Option.some.inj h
  exact zf [.one (.sl 0 1 0 l5.length)] (.one (cf_sl (eK .u8) l5 rfl rfl rfl))
 refine zq fun K7 hK7 => zr (zv [] 2 [0,5,16,17] [] [(0, vi p1), (5, .one (.sl 0 1 0 ((IntKind.i64.wrap (y1.tdiv (8 : Int))).toNat))), (16, vl eI p2), (17, vi ((eI.els p2).length : Int))] [.arr 1 ((eK .u8).els (List.replicate (IntKind.i64.wrap (y1.tdiv (8 : Int))).toNat (0 : Int)))] ?_)
 rw [eI.len p2]
 refine zg [] 1 [0,5,16,17,18] (zd (hK7 _ _ (zb 0 (XW.rounds' BIG (x := cd Try.f72 [1,1,0,1,0,0]) (by kernel_rfl) fun Q1 hQ1 => ?_))))
 have hL1 : ∀ (k1 : Nat) (l1 : List Int) (x1 : Int), column_pack_l1 p1 p2 k1 l1 x1 = some r → XR Try.prog 53 0 [] (cd Try.f72 [1,1,0,1,0,0]) Q1 k1 [(0, vi p1), (5, .one (.sl 0 1 0 l1.length)), (16, vl eI p2), (17, vi (p2.length : Int)), (18, vi x1)] [.arr 1 ((eK .u8).els l1)] := by
  intro k1
  induction k1 with
  | zero => intro l1 x1 h; rw [column_pack_l1.eq_1] at h; cases h
  | succ k1 ih1 =>
   intro l1 x1 h
   rw [column_pack_l1.eq_2] at h
   refine zq fun K8 hK8 => zr (zg [] 1 [0,5,16,17,18,19] (zd (hK8 _ _ (zq fun K9 hK9 => zC h (fun b10 h => ?_) (fun b10 h => ?_)))))
   ·refine zs (hK9 _ _ (zq fun K11 hK11 => ?_))
    have hJ2 : ∀ (l4 : List Int), column_pack_j2 (column_pack_l1 p1 p2 k1) x1 l4 = some r → ∀ fr1 st1, Sub 53 0 [] fr1 st1 [(0, vi p1), (5, .one (.sl 0 1 0 l4.length)), (16, vl eI p2), (17, vi (p2.length : Int)), (18, vi x1)] [.arr 1 ((eK .u8).els l4)] → K11 fr1 st1 := by
     intro l4 h fr1 st1 hS
     unfold column_pack_j2 at h
     refine hK11 _ _ (XW.sub hS ?_)
     exact zr (zg [] 2 [0,5,16,17,18] (zd (XR.sub (zk [0,5,16,17,18]) (ih1 l4 (IntKind.i64.wrap (x1 + (1 : Int))) h))))
    refine zb 1 (zq fun K12 hK12 => ?_)
    obtain ⟨e1, a13, h⟩ := zB h
    refine zr (zo [] 5 [0,5,6,7,16,17,18] [[pi e1]] [0 ≤ x1 ∧ x1 < ((eI.els p2).length : Int) ∧ elemsOk 1 (eI.els p2), (eI.els p2)[x1.toNat]? = some [pi e1]] (⟨eI.inb a13, (eI.get a13), trivial⟩) (zd (hK12 _ _ (zq fun K14 hK14 => zr (zv [] 2 [0,5,6,7,16,17,18,23,24] [] [(0, vi p1), (5, .one (.sl 0 1 0 l1.length)), (6, vi x1), (7, vi e1), (16, vl eI p2), (17, vi (p2.length : Int)), (18, vi x1), (23, vi p1), (24, vi (0 : Int))] [.arr 1 ((eK .u8).els l1)] (zd ?_))))))
    refine hK14 _ _ (zb 2 (XW.rounds' BIG (x := cd Try.f72 [1,1,0,1,0,0,1,1,0,0,1,1,0,0]) (by kernel_rfl) fun Q2 hQ2 => ?_))
    have hL2 : ∀ (k2 : Nat) (l2 : List Int) (x2 : Int), column_pack_l2 (column_pack_l1 p1 p2 k1) p1 x1 e1 k2 l2 x2 = some r → XR Try.prog 53 0 [] (cd Try.f72 [1,1,0,1,0,0,1,1,0,0,1,1,0,0]) Q2 k2 [(0, vi p1), (5, .one (.sl 0 1 0 l2.length)), (6, vi x1), (7, vi e1), (16, vl eI p2), (17, vi (p2.length : Int)), (18, vi x1), (23, vi p1), (24, vi x2)] [.arr 1 ((eK .u8).els l2)] := by
     intro k2
     induction k2 with
     | zero => intro l2 x2 h; rw [column_pack_l2.eq_1] at h; cases h
     | succ k2 ih2 =>
      intro l2 x2 h
      rw [column_pack_l2.eq_2] at h
      refine zq fun K15 hK15 => zr (zg [] 1 [0,5,6,7,16,17,18,23,24,25] (zd (hK15 _ _ (zq fun K16 hK16 => zC h (fun b17 h => ?_) (fun b17 h => ?_)))))
      ·refine zs (hK16 _ _ (zq fun K18 hK18 => ?_))
       have hJ1 : ∀ (l3 : List Int), column_pack_j1 (column_pack_l2 (column_pack_l1 p1 p2 k1) p1 x1 e1 k2) x2 l3 = some r → ∀ fr1 st1, Sub 53 0 [] fr1 st1 [(0, vi p1), (5, .one (.sl 0 1 0 l3.length)), (6, vi x1), (7, vi e1), (16, vl eI p2), (17, vi (p2.length : Int)), (18, vi x1), (23, vi p1), (24, vi x2)] [.arr 1 ((eK .u8).els l3)] → K18 fr1 st1 := by
        intro l3 h fr1 st1 hS
        unfold column_pack_j1 at h
        refine hK18 _ _ (XW.sub hS ?_)
        exact zr (zg [] 2 [0,5,6,7,16,17,18,23,24] (zd (XR.sub (zk [0,5,6,7,16,17,18,23,24]) (ih2 l3 (IntKind.i64.wrap (x2 + (1 : Int))) h))))
       refine zb 3 (zq fun K19 hK19 => zr (zg [] 2 [0,5,6,7,8,16,17,18,23,24] (zd (hK19 _ _ (zq fun K20 hK20 => ?_)))))
       obtain ⟨g21, h⟩ := zG h
       obtain ⟨y2, hy22, h⟩ := zB h
       refine zr (zp [] 4 [0,5,6,7,8,16,17,18,23,24,30] [] [(0, vi p1), (5, .one (.sl 0 1 0 l2.length)), (6, vi x1), (7, vi e1), (8, vi x2), (16, vl eI p2), (17, vi (p2.length : Int)), (18, vi x1), (23, vi p1), (24, vi x2), (30, vi (IntKind.i64.wrap (BitVec.ofInt (IntKind.i64).bits (e1.fdiv (2 ^ (min x2.toNat (IntKind.i64).bits))) &&& BitVec.ofInt (IntKind.i64).bits (1 : Int)).toNat))] [.arr 1 ((eK .u8).els l2)] [0 ≤ x2] (⟨g21, trivial⟩) ?_)
       rw [show (IntKind.i64.wrap (BitVec.ofInt (IntKind.i64).bits (e1.fdiv (2 ^ (min x2.toNat (IntKind.i64).bits))) &&& BitVec.ofInt (IntKind.i64).bits (1 : Int)).toNat) = y2 from Option.some.inj hy22]
       refine zg [] 1 [0,5,6,7,8,16,17,18,23,24,31] (zd (hK20 _ _ (zC h (fun b23 h => ?_) (fun b23 h => ?_))))
       ·obtain ⟨y3, hy24, h⟩ := zB h
        obtain ⟨e2, a25, h⟩ := zB h
        obtain ⟨y4, hy26, h⟩ := zB h
        obtain ⟨g27, h⟩ := zG h
        obtain ⟨y5, hy28, h⟩ := zB h
        refine zw 16 [(47, vk .u8 (IntKind.u8.wrap ((1 : Int) * 2 ^ (min y4.toNat (IntKind.u8).bits)))), (46, vi y4), (45, vi (IntKind.i64.wrap ((IntKind.i64.wrap (x1 * p1)) + x2))), (44, vi x2), (43, vi (IntKind.i64.wrap (x1 * p1))), (42, vi p1), (41, vi x1), (40, vk .u8 e2), (39, .one (.pt 0 1 (0 + y3.toNat) 0)), (38, vi y3), (37, vi (IntKind.i64.wrap ((IntKind.i64.wrap (x1 * p1)) + x2))), (36, vi x2), (35, vi (IntKind.i64.wrap (x1 * p1))), (34, vi p1), (33, vi x1), (32, .one (.sl 0 1 0 l2.length)), (0, vi p1), (5, .one (.sl 0 1 0 l2.length)), (6, vi x1), (7, vi e1), (8, vi x2), (16, vl eI p2), (17, vi (p2.length : Int)), (18, vi x1), (23, vi p1), (24, vi x2), (31, vb (y2 == (1 : Int)))] ?_ ?_
        ·refine zyp 7 [] [(38, vi (IntKind.i64.wrap ((IntKind.i64.wrap ((IntKind.i64.wrap (x1 * p1)) + x2)).tdiv (8 : Int)))), (37, vi (IntKind.i64.wrap ((IntKind.i64.wrap (x1 * p1)) + x2))), (36, vi x2), (35, vi (IntKind.i64.wrap (x1 * p1))), (34, vi p1), (33, vi x1), (32, .one (.sl 0 1 0 l2.length)), (0, vi p1), (5, .one (.sl 0 1 0 l2.length)), (6, vi x1), (7, vi e1), (8, vi x2), (16, vl eI p2), (17, vi (p2.length : Int)), (18, vi x1), (23, vi p1), (24, vi x2), (31, vb (y2 == (1 : Int)))] [(8 : Int) ≠ 0] (⟨by decide, trivial⟩) ?_
         rw [show (IntKind.i64.wrap ((IntKind.i64.wrap ((IntKind.i64.wrap (x1 * p1)) + x2)).tdiv (8 : Int))) = y3 from Option.some.inj hy24]
         refine zyp 8 [[.s (.int .u8 e2)]] [(46, vi ((IntKind.i64.wrap ((IntKind.i64.wrap (x1 * p1)) + x2)).tmod (8 : Int))), (45, vi (IntKind.i64.wrap ((IntKind.i64.wrap (x1 * p1)) + x2))), (44, vi x2), (43, vi (IntKind.i64.wrap (x1 * p1))), (42, vi p1), (41, vi x1), (40, vk .u8 e2), (39, .one (.pt 0 1 (0 + y3.toNat) 0)), (38, vi y3), (37, vi (IntKind.i64.wrap ((IntKind.i64.wrap (x1 * p1)) + x2))), (36, vi x2), (35, vi (IntKind.i64.wrap (x1 * p1))), (34, vi p1), (33, vi x1), (32, .one (.sl 0 1 0 l2.length)), (0, vi p1), (5, .one (.sl 0 1 0 l2.length)), (6, vi x1), (7, vi e1), (8, vi x2), (16, vl eI p2), (17, vi (p2.length : Int)), (18, vi x1), (23, vi p1), (24, vi x2), (31, vb (y2 == (1 : Int)))] [0 ≤ y3 ∧ y3 < ((l2.length : Nat) : Int), ((eK .u8).els l2)[(0 + y3.toNat)]? = some [.s (.int .u8 e2)], (8 : Int) ≠ 0] (⟨Enc.inb' a25, ((eK .u8).get0 a25), by decide, trivial⟩) ?_
         rw [show ((IntKind.i64.wrap ((IntKind.i64.wrap (x1 * p1)) + x2)).tmod (8 : Int)) = y4 from Option.some.inj hy26]
         exact zyo 1 [] [0 ≤ y4] (⟨g27, trivial⟩) zyd
        refine zv [] 1 [0,5,6,7,16,17,18,23,24,32,38,48] [] [(0, vi p1), (5, .one (.sl 0 1 0 l2.length)), (6, vi x1), (7, vi e1), (16, vl eI p2), (17, vi (p2.length : Int)), (18, vi x1), (23, vi p1), (24, vi x2), (32, .one (.sl 0 1 0 l2.length)), (38, vi y3), (48, vk .u8 (IntKind.u8.wrap (BitVec.ofInt (IntKind.u8).bits e2 ||| BitVec.ofInt (IntKind.u8).bits (IntKind.u8.wrap ((1 : Int) * 2 ^ (min y4.toNat (IntKind.u8).bits)))).toNat))] [.arr 1 ((eK .u8).els l2)] ?_
        rw [show (IntKind.u8.wrap (BitVec.ofInt (IntKind.u8).bits e2 ||| BitVec.ofInt (IntKind.u8).bits (IntKind.u8.wrap ((1 : Int) * 2 ^ (min y4.toNat (IntKind.u8).bits)))).toNat) = y5 from Option.some.inj hy28]
        refine zp [] 2 [0,5,6,7,16,17,18,23,24] [[.s (.int .u8 e2)]] [(0, vi p1), (5, .one (.sl 0 1 0 l2.length)), (6, vi x1), (7, vi e1), (16, vl eI p2), (17, vi (p2.length : Int)), (18, vi x1), (23, vi p1), (24, vi x2)] [.arr 1 (((eK .u8).els l2).set (0 + y3.toNat) [.s (.int .u8 y5)])] [0 ≤ y3 ∧ y3 < ((l2.length : Nat) : Int), ((eK .u8).els l2)[(0 + y3.toNat)]? = some [.s (.int .u8 e2)]] (⟨Enc.inb' a25, ((eK .u8).get0 a25), trivial⟩) ?_
        rw [show ((eK .u8).els l2).set (0 + y3.toNat) [.s (.int .u8 y5)] = (eK .u8).els (l2.set y3.toNat y5) from (eK .u8).set0 _ _ y5]
        refine zd ?_
        exact hJ1 (l2.set y3.toNat y5) h _ _ (Sub.trans (Sub.pick (fr' := [(0, vi p1), (5, .one (.sl 0 1 0 l2.length)), (6, vi x1), (7, vi e1), (16, vl eI p2), (17, vi (p2.length : Int)), (18, vi x1), (23, vi p1), (24, vi x2)]) [0,5,6,7,16,17,18,23,24] (by kernel_rfl)) (Sub.frame (fr' := [(0, vi p1), (5, .one (.sl 0 1 0 (l2.set y3.toNat y5).length)), (6, vi x1), (7, vi e1), (16, vl eI p2), (17, vi (p2.length : Int)), (18, vi x1), (23, vi p1), (24, vi x2)]) ⟨.rfl _, ALe.of_eq (show (.one (.sl 0 1 0 l2.length) : AV) = .one (.sl 0 1 0 (l2.set y3.toNat y5).length) from by simp), .rfl _, .rfl _, .rfl _, .rfl _, .rfl _, .rfl _, .rfl _, trivial⟩))
       ·exact zs (hJ1 l2 h _ _ (zk [0,5,6,7,16,17,18,23,24]))
      ·exact zx 2 (hQ2 _ _ _ (hJ2 l2 h _ _ (zk [0,5,16,17,18])))
    exact XR.sub (zk [0,5,6,7,16,17,18,23,24]) (hL2 BIG l1 (0 : Int) h)
   ·exact zx 0 (hQ1 _ _ _ (hJ3 l1 h _ _ (zk [5])))
 exact XR.sub (Sub.trans (Sub.pick (fr' := [(0, vi p1), (5, .one (.sl 0 1 0 ((IntKind.i64.wrap (y1.tdiv (8 : Int))).toNat))), (16, vl eI p2), (17, vi (p2.length : Int)), (18, vi (0 : Int))]) [0,5,16,17,18] (by kernel_rfl)) (Sub.frame (fr' := [(0, vi p1), (5, .one (.sl 0 1 0 (List.replicate (IntKind.i64.wrap (y1.tdiv (8 : Int))).toNat (0 : Int)).length)), (16, vl eI p2), (17, vi (p2.length : Int)), (18, vi (0 : Int))]) ⟨.rfl _, ALe.of_eq (show (.one (.sl 0 1 0 ((IntKind.i64.wrap (y1.tdiv (8 : Int))).toNat)) : AV) = .one (.sl 0 1 0 (List.replicate (IntKind.i64.wrap (y1.tdiv (8 : Int))).toNat (0 : Int)).length) from by simp), .rfl _, .rfl _, .rfl _, trivial⟩)) (hL1 BIG (List.replicate (IntKind.i64.wrap (y1.tdiv (8 : Int))).toNat (0 : Int)) (0 : Int) h)

def column_frame_j1 (r1 : Int) (r3 : Int) (l2 : List Int) : Option (List Int) :=
    bnd (column_signed_s_2 r1) fun r4 =>
    grd (r4.length + 1 ≤ 4294967296) <|
    bnd (column_pack r3 l2) fun r5 =>
    grd ((r4 ++ [(IntKind.u8.wrap r3)]).length + r5.length ≤ 4294967296) <|
    some ((r4 ++ [(IntKind.u8.wrap r3)]) ++ r5)

def column_frame_l1 (p1 : (List Int)) (r1 : Int) (r3 : Int) : Nat → List Int → Int → Option (List Int)
  | 0, _, _ => none
  | k1 + 1, l1, x1 =>
    ift (decide (x1 < (p1.length : Int)))
      (bnd (at? p1 x1) fun e1 =>
       grd (l1.length + 1 ≤ 4294967296) <|
       (column_frame_l1 p1 r1 r3 k1) (l1 ++ [(IntKind.i64.wrap (e1 - r1))]) (IntKind.i64.wrap (x1 + (1 : Int))))
      (column_frame_j1 r1 r3 l1)

def column_frame (p1 : (List Int)) : Option (List Int) :=
    ift ((p1.length : Int) == (0 : Int))
      (some [])
      (bnd (slices_Min_int_int p1) fun r1 =>
       bnd (slices_Max_int_int p1) fun r2 =>
       bnd (math_bits_Len64 (IntKind.u64.wrap (IntKind.i64.wrap (r2 - r1)))) fun r3 =>
       column_frame_l1 p1 r1 r3 BIG [] (0 : Int))


theorem c_column_frame (p1 : (List Int)) (r : (List Int)) (h : column_frame p1 = some r) : PC Try.prog 54 [vl eI p1] (vl (eK .u8) r) := by
 unfold column_frame at h
 refine zF 44 Try.f54 (zq fun K1 hK1 => zr (zg [] 1 [0] (zd (hK1 _ _ (zq fun K2 hK2 => zq fun K3 hK3 => ?_)))))
 refine zr (zv [] 2 [0,10] [] [(0, vl eI p1), (10, vi ((eI.els p1).length : Int))] [] ?_)
 rw [eI.len p1]
 refine zg [] 1 [0,11] (zd (hK3 _ _ (zC h (fun b4 h => ?_) (fun b4 h => ?_))))
 ·refine zq fun K5 hK5 => zr (zg [] 1 [2] (zd (hK5 _ _ (ze ?_))))
  obtain rfl := Option.some.inj h
  exact zf [.one (.pv (.s (.slice none 0 0)))] (.one (.nl))
 ·refine zs (hK2 _ _ (zq fun K6 hK6 => ?_))
  obtain ⟨r1, c7, h⟩ := zB h
  refine zr (zv [] 1 [0,12] [] [(0, vl eI p1), (12, vl eI p1)] [] (za (c_slices_Min_int_int _ _ c7) (zg [] 1 [0,3] (zd (hK6 _ _ (zq fun K8 hK8 => ?_))))))
  obtain ⟨r2, c9, h⟩ := zB h
  obtain ⟨r3, c10, h⟩ := zB h
  refine zr (zv [] 1 [0,3,14] [] [(0, vl eI p1), (3, vi r1), (14, vl eI p1)] [] (za (c_slices_Max_int_int _ _ c9) (zg [] 3 [0,3,18] (zl 81 [vk .u64 (IntKind.u64.wrap (IntKind.i64.wrap (r2 - r1)))] (vi r3) [(19, vi r3), (0, vl eI p1), (3, vi r1), (18, vk .u64 (IntKind.u64.wrap (IntKind.i64.wrap (r2 - r1))))] (c_math_bits_Len64 _ _ c10) (zg [] 1 [0,3,4] (zd (hK8 _ _ ?_)))))))
  refine zq fun K11 hK11 => zr (zg [] 1 [0,3,4,5] (zd (hK11 _ _ (zq fun K12 hK12 => ?_))))
  have hJ1 : ∀ (l2 : List Int), column_frame_j1 r1 r3 l2 = some r → ∀ fr1 st1, Sub 44 0 [] fr1 st1 [(3, vi r1), (4, vi r3), (5, .one (.sl 0 1 0 l2.length))] [.arr 1 (eI.els l2)] → K12 fr1 st1 := by
   intro l2 h fr1 st1 hS
   unfold column_frame_j1 at h
   refine hK12 _ _ (XW.sub hS ?_)
   refine zq fun K21 hK21 => ?_
   obtain ⟨r4, c22, h⟩ := zB h
   obtain ⟨g23, h⟩ := zG h
   refine zr (zv [] 1 [4,5,33] [] [(4, vi r3), (5, .one (.sl 0 1 0 l2.length)), (33, vi r1)] [.arr 1 (eI.els l2)] (XO.calx 60 [.one (.pv (.s (.slice none 0 0))), vi r1] [] [.arr 1 ((eK .u8).els r4)] [] (.one (.sl 0 1 0 r4.length)) [] [] [(34, .one (.sl 1 1 0 r4.length)), (4, vi r3), (5, .one (.sl 0 1 0 l2.length)), (33, vi r1)] [.arr 1 (eI.els l2), .arr 1 ((eK .u8).els r4)] (by kernel_rfl) (c_column_signed_s_2 _ _ c22) (by kernel_rfl) (by kernel_rfl) (by kernel_rfl) (by kernel_rfl) (by kernel_rfl) (by kernel_rfl) (by kernel_rfl) ?_))
   refine zp [] 4 [4,5,38] [] [(4, vi r3), (5, .one (.sl 0 1 0 l2.length)), (38, .one (.sl 1 1 0 (r4.length + ((eK .u8).els [(IntKind.u8.wrap r3)]).length)))] [.arr 1 (eI.els l2), .arr 1 ((eK .u8).els r4 ++ (eK .u8).els [(IntKind.u8.wrap r3)])] [elemsOk 1 ((eK .u8).els [(IntKind.u8.wrap r3)]), r4.length = ((eK .u8).els r4).length, r4.length + ((eK .u8).els [(IntKind.u8.wrap r3)]).length ≤ 4294967296] (⟨(eK .u8).ok _, ((eK .u8).len r4).symm, g23, trivial⟩) ?_
   rw [show r4.length + ((eK .u8).els [(IntKind.u8.wrap r3)]).length = (r4 ++ [(IntKind.u8.wrap r3)]).length from (eK .u8).lapp _ _]
   rw [show (eK .u8).els r4 ++ (eK .u8).els [(IntKind.u8.wrap r3)] = (eK .u8).els (r4 ++ [(IntKind.u8.wrap r3)]) from (eK .u8).app2 _ _]
   refine zg [] 1 [4,5,8] (zd (hK21 _ _ (zq fun K24 hK24 => ?_)))
   obtain ⟨r5, c25, h⟩ := zB h
   obtain ⟨g26, h⟩ := zG h
   refine zr (zv [] 3 [39,40,41] [] [(39, .one (.sl 1 1 0 ((r4 ++ [(IntKind.u8.wrap r3)]).length))), (40, vi r3), (41, .one (.sl 0 1 0 l2.length))] [.arr 1 (eI.els l2), .arr 1 ((eK .u8).els (r4 ++ [(IntKind.u8.wrap r3)]))] (XO.sub (Sub.kill (fr' := [(39, .one (.sl 1 1 0 ((r4 ++ [(IntKind.u8.wrap r3)]).length))), (40, vi r3), (41, vl eI l2)]) 0 (Nat.zero_le _) (by kernel_rfl) ⟨.one (.rfl _ rfl), .one (.rfl _ rfl), .one (cf_sl eI l2 rfl rfl rfl), trivial⟩) (za (c_column_pack _ _ _ c25) ?_)))
   refine zp [] 1 [43] [] [(43, .one (.sl 1 1 0 ((r4 ++ [(IntKind.u8.wrap r3)]).length + ((eK .u8).els r5).length)))] [.dead, .arr 1 ((eK .u8).els (r4 ++ [(IntKind.u8.wrap r3)]) ++ (eK .u8).els r5)] [elemsOk 1 ((eK .u8).els r5), (r4 ++ [(IntKind.u8.wrap r3)]).length = ((eK .u8).els (r4 ++ [(IntKind.u8.wrap r3)])).length, (r4 ++ [(IntKind.u8.wrap r3)]).length + ((eK .u8).els r5).length ≤ 4294967296] (⟨(eK .u8).ok _, ((eK .u8).len (r4 ++ [(IntKind.u8.wrap r3)])).symm, (by rw [(eK .u8).len]; exact g26), trivial⟩) ?_
   rw [show (r4 ++ [(IntKind.u8.wrap r3)]).length + ((eK .u8).els r5).length = ((r4 ++ [(IntKind.u8.wrap r3)]) ++ r5).length from (eK .u8).lapp _ _]
   rw [show (eK .u8).els (r4 ++ [(IntKind.u8.wrap r3)]) ++ (eK .u8).els r5 = (eK .u8).els ((r4 ++ [(IntKind.u8.wrap r3)]) ++ r5) from (eK .u8).app2 _ _]
   refine zg [] 1 [2] (zd (hK24 _ _ (ze ?_)))
   obtain rfl := Option.some.inj h
   exact zf [.one (.sl 1 1 0 (((r4 ++ [(IntKind.u8.wrap r3)]) ++ r5).length))] (.one (cf_sl (eK .u8) ((r4 ++ [(IntKind.u8.wrap r3)]) ++ r5) rfl rfl rfl))
  refine zq fun K13 hK13 => zr (zv [] 2 [3,4,5,20,21] [] [(3, vi r1), (4, vi r3), (5, .one (.pv (.s (.slice none 0 0)))), (20, vl eI p1), (21, vi ((eI.els p1).length : Int))] [] ?_)
  rw [eI.len p1]
  refine zv [] 1 [3,4,5,20,21,22] [] [(3, vi r1), (4, vi r3), (5, .one (.pv (.s (.slice none 0 0)))), (20, vl eI p1), (21, vi (p1.length : Int)), (22, vi (0 : Int))] [] (zd (hK13 _ _ (zb 0 (XW.sub (Sub.list (t := 5) (sz := 1) rfl) (XW.rounds' BIG (x := cd Try.f54 [1,1,1,1,1,0,1,0,0]) (by kernel_rfl) fun Q1 hQ1 => ?_)))))
  have hL1 : ∀ (k1 : Nat) (l1 : List Int) (x1 : Int), column_frame_l1 p1 r1 r3 k1 l1 x1 = some r → XR Try.prog 44 0 [] (cd Try.f54 [1,1,1,1,1,0,1,0,0]) Q1 k1 [(3, vi r1), (4, vi r3), (5, .one (.sl 0 1 0 l1.length)), (20, vl eI p1), (21, vi (p1.length : Int)), (22, vi x1)] [.arr 1 (eI.els l1)] := by
   intro k1
   induction k1 with
   | zero => intro l1 x1 h; rw [column_frame_l1.eq_1] at h; cases h
   | succ k1 ih1 =>
    intro l1 x1 h
    rw [column_frame_l1.eq_2] at h
    refine zq fun K14 hK14 => zr (zg [] 1 [3,4,5,20,21,22,23] (zd (hK14 _ _ (zq fun K15 hK15 => zC h (fun b16 h => ?_) (fun b16 h => ?_)))))
    ·refine zs (hK15 _ _ (zq fun K17 hK17 => zb 1 (zq fun K18 hK18 => ?_)))
     obtain ⟨e1, a19, h⟩ := zB h
     refine zr (zo [] 3 [3,4,5,7,20,21,22] [[pi e1]] [0 ≤ x1 ∧ x1 < ((eI.els p1).length : Int) ∧ elemsOk 1 (eI.els p1), (eI.els p1)[x1.toNat]? = some [pi e1]] (⟨eI.inb a19, (eI.get a19), trivial⟩) (zd (hK18 _ _ ?_)))
     obtain ⟨g20, h⟩ := zG h
     refine zr (zp [] 6 [3,4,20,21,22,31] [] [(3, vi r1), (4, vi r3), (20, vl eI p1), (21, vi (p1.length : Int)), (22, vi x1), (31, .one (.sl 0 1 0 (l1.length + (eI.els [(IntKind.i64.wrap (e1 - r1))]).length)))] [.arr 1 (eI.els l1 ++ eI.els [(IntKind.i64.wrap (e1 - r1))])] [elemsOk 1 (eI.els [(IntKind.i64.wrap (e1 - r1))]), l1.length = (eI.els l1).length, l1.length + (eI.els [(IntKind.i64.wrap (e1 - r1))]).length ≤ 4294967296] (⟨eI.ok _, (eI.len l1).symm, g20, trivial⟩) ?_)
     rw [show l1.length + (eI.els [(IntKind.i64.wrap (e1 - r1))]).length = (l1 ++ [(IntKind.i64.wrap (e1 - r1))]).length from eI.lapp _ _]
     rw [show eI.els l1 ++ eI.els [(IntKind.i64.wrap (e1 - r1))] = eI.els (l1 ++ [(IntKind.i64.wrap (e1 - r1))]) from eI.app2 _ _]
     exact zg [] 1 [3,4,5,20,21,22] (zd (hK17 _ _ (zr (zg [] 2 [3,4,5,20,21,22] (zd (XR.sub (zk [3,4,5,20,21,22]) (ih1 (l1 ++ [(IntKind.i64.wrap (e1 - r1))]) (IntKind.i64.wrap (x1 + (1 : Int))) h)))))))
    ·exact zx 0 (hQ1 _ _ _ (hJ1 l1 h _ _ (zk [3,4,5])))
  exact XR.sub (zk [3,4,5,20,21,22]) (hL1 BIG [] (0 : Int) h)

def slices_Clone_int_int (p1 : (List Int)) : Option (List Int) :=
    grd (p1 ≠ []) <|
    grd (([] : List Int).length + p1.length ≤ 4294967296) <|
    some (([] : List Int) ++ p1)


theorem c_slices_Clone_int_int (p1 : (List Int)) (r : (List Int)) (h : slices_Clone_int_int p1 = some r) : MX Try.prog 83 [vl eI p1] [] [] (.one (.sl 0 1 0 r.length)) [.arr 1 (eI.els r)] := by
 unfold slices_Clone_int_int at h
 refine MX.of 0 1 rfl (n := 8) (fn := Try.f83) (c := cd Try.f83 []) (by kernel_rfl) (by kernel_rfl) (by kernel_rfl) (Nat.le_of_ble_eq_true rfl) rfl (zq fun K1 hK1 => zr (zg [5] 1 [0] (zd (hK1 _ _ (zq fun K2 hK2 => zq fun K3 hK3 => ?_)))))
 obtain ⟨g4, h⟩ := zG h
 refine zr (zo [5] 2 [0,4] [] [eI.els p1 ≠ []] (⟨eI.ne g4, trivial⟩) (zd (hK3 _ _ (zc false (fun hx => by cases hx) (fun _ => ?_)))))
 refine zs (hK2 _ _ (zq fun K5 hK5 => ?_))
 obtain ⟨g6, h⟩ := zG h
 refine zr (zp [5] 3 [7] [] [(7, .one (.sl 0 1 0 (0 + (eI.els p1).length)))] [.arr 1 (eI.els [] ++ eI.els p1)] [elemsOk 1 (eI.els p1), 0 = (eI.els []).length, 0 + (eI.els p1).length ≤ 4294967296] (⟨eI.ok _, (by simp [Enc.len]), (by simp [Enc.len] at * <;> omega), trivial⟩) ?_)
 rw [show 0 + (eI.els p1).length = (([] : List Int) ++ p1).length from (by simp [Enc.len] <;> omega)]
 rw [show eI.els [] ++ eI.els p1 = eI.els (([] : List Int) ++ p1) from eI.app2 _ _]
 refine zv [5] 1 [2] [] [(2, .one (.sl 0 1 0 ((([] : List Int) ++ p1).length)))] [.arr 1 (eI.els (([] : List Int) ++ p1))] (zd (hK5 _ _ (ze ?_)))
 obtain rfl := Option.some.inj h
 exact FinM.fin (.inr rfl) [] [.one (.sl 0 1 0 ((([] : List Int) ++ p1).length))] [] (by kernel_rfl) trivial (by kernel_rfl) (by kernel_rfl) (.one (.rfl _ rfl))

def column_numbers_1 (p1 : Int) (p2 : Int) : Option Int :=
    some (IntKind.i64.wrap (p1 - p2))


theorem c_column_numbers_1 (p1 : Int) (p2 : Int) (r : Int) (h : column_numbers_1 p1 p2 = some r) : PC Try.prog 56 [vi p1, vi p2] (vi r) := by
 unfold column_numbers_1 at h
 refine zF 8 Try.f56 (zq fun K1 hK1 => zr (zg [] 1 [0,1] (zd (hK1 _ _ (zq fun K2 hK2 => zr ?_)))))
 refine zg [] 4 [4] (zd (hK2 _ _ (ze ?_)))
 obtain rfl := Option.some.inj h
 exact zf [vi (IntKind.i64.wrap (p1 - p2))] (.one (.rfl _ rfl))

def slices_BinarySearchFunc_int_int_int_of_column_numbers_1_j2 (x3 : Int) (x4 : Bool) : Option (Int × Bool) :=
    some (x3, x4)

def slices_BinarySearchFunc_int_int_int_of_column_numbers_1_j1 (p1 : (List Int)) (p2 : Int) (x3 : Int) : Option (Int × Bool) :=
    ift (decide (x3 < (p1.length : Int)))
      (bnd (at? p1 x3) fun e2 =>
       bnd (column_numbers_1 e2 p2) fun r2 =>
       slices_BinarySearchFunc_int_int_int_of_column_numbers_1_j2 x3 (r2 == (0 : Int)))
      (slices_BinarySearchFunc_int_int_int_of_column_numbers_1_j2 x3 false)

def slices_BinarySearchFunc_int_int_int_of_column_numbers_1_l1 (p1 : (List Int)) (p2 : Int) : Nat → Int → Int → Option (Int × Bool)
  | 0, _, _ => none
  | k1 + 1, x1, x2 =>
    ift (decide (x1 < x2))
      (bnd (some ((IntKind.u64.wrap (IntKind.i64.wrap (x1 + x2))).fdiv (2 ^ (min (1 : Int).toNat (IntKind.u64).bits)))) fun y1 =>
       bnd (at? p1 (IntKind.i64.wrap y1)) fun e1 =>
       bnd (column_numbers_1 e1 p2) fun r1 =>
       ift (decide (r1 < (0 : Int)))
         ((slices_BinarySearchFunc_int_int_int_of_column_numbers_1_l1 p1 p2 k1) (IntKind.i64.wrap ((IntKind.i64.wrap y1) + (1 : Int))) x2)
         ((slices_BinarySearchFunc_int_int_int_of_column_numbers_1_l1 p1 p2 k1) x1 (IntKind.i64.wrap y1)))
      (slices_BinarySearchFunc_int_int_int_of_column_numbers_1_j1 p1 p2 x1)

def slices_BinarySearchFunc_int_int_int_of_column_numbers_1 (p1 : (List Int)) (p2 : Int) : Option (Int × Bool) :=
    slices_BinarySearchFunc_int_int_int_of_column_numbers_1_l1 p1 p2 BIG (0 : Int) (p1.length : Int)


theorem c_slices_BinarySearchFunc_int_int_int_of_column_numbers_1 (p1 : (List Int)) (p2 : Int) (r : (Int × Bool)) (h : slices_BinarySearchFunc_int_int_int_of_column_numbers_1 p1 p2 = some r) : PC Try.prog 87 [vl eI p1, vi p2, .one (.pv (.fn 56 []))] (.tp [vi r.1, vb r.2]) := by
 unfold slices_BinarySearchFunc_int_int_int_of_column_numbers_1 at h
 refine zF 49 Try.f87 (zq fun K1 hK1 => zr (zg [] 2 [0,1,2] (zd (hK1 _ _ (zq fun K2 hK2 => zr ?_)))))
 refine zv [] 2 [0,1,2,13] [] [(0, vl eI p1), (1, vi p2), (2, .one (.pv (.fn 56 []))), (13, vi ((eI.els p1).length : Int))] [] ?_
 rw [eI.len p1]
 refine zg [] 1 [0,1,2,8] (zd (hK2 _ _ (zq fun K3 hK3 => zr (zg [] 3 [0,1,2,8,9,10] (zd (hK3 _ _ ?_))))))
 refine zq fun K4 hK4 => ?_
 have hJ1 : ∀ (x3 : Int), slices_BinarySearchFunc_int_int_int_of_column_numbers_1_j1 p1 p2 x3 = some r → ∀ fr1 st1, Sub 49 0 [] fr1 st1 [(0, vl eI p1), (1, vi p2), (2, .one (.pv (.fn 56 []))), (8, vi (p1.length : Int)), (9, vi x3)] [] → K4 fr1 st1 := by
  intro x3 h fr1 st1 hS
  unfold slices_BinarySearchFunc_int_int_int_of_column_numbers_1_j1 at h
  refine hK4 _ _ (XW.sub hS ?_)
  refine zq fun K14 hK14 => ?_
  have hJ2 : ∀ (x4 : Bool), slices_BinarySearchFunc_int_int_int_of_column_numbers_1_j2 x3 x4 = some r → ∀ fr1 st1, Sub 49 0 [] fr1 st1 [(6, vi x3), (7, vb x4)] [] → K14 fr1 st1 := by
   intro x4 h fr1 st1 hS
   unfold slices_BinarySearchFunc_int_int_int_of_column_numbers_1_j2 at h
   refine hK14 _ _ (XW.sub hS ?_)
   refine ze ?_
   obtain rfl := Option.some.inj h
   exact zf [vi x3, vb x4] (.tpc (.one (.rfl _ rfl)) (.tpc (.one (.rfl _ rfl)) (.tp0)))
  rcases zW h with ⟨b15, h⟩ | ⟨b15, h⟩
  ·obtain ⟨e2, a16, h⟩ := zB h
   obtain ⟨r2, c17, h⟩ := zB h
   exact zr (zg [] 5 [0,1,2,9,35,39] (zt 39 b15 (zo [] 6 [35,39,40,44,45] [[pi e2]] [0 ≤ x3 ∧ x3 < ((eI.els p1).length : Int) ∧ elemsOk 1 (eI.els p1), (eI.els p1)[x3.toNat]? = some [pi e2]] (⟨eI.inb a16, (eI.get a16), trivial⟩) (zl 56 [vi e2, vi p2] (vi r2) [(46, vi r2), (35, vi x3), (39, vb true), (40, .one (.pv (.fn 56 []))), (44, vi e2), (45, vi p2)] (c_column_numbers_1 _ _ _ c17) (zg [] 4 [6,7] (zd (hJ2 (r2 == (0 : Int)) h _ _ (zk [6,7]))))))))
  ·exact zr (zg [] 5 [0,1,2,9,35,39] (zt 39 b15 (zv [] 11 [6,7] [] [(6, vi x3), (7, vb false)] [] (zd (hJ2 false h _ _ (zk [6,7]))))))
 refine zb 0 (XW.rounds' BIG (x := cd Try.f87 [1,1,1,0,0,0]) (by kernel_rfl) fun Q1 hQ1 => ?_)
 have hL1 : ∀ (k1 : Nat) (x1 : Int) (x2 : Int), slices_BinarySearchFunc_int_int_int_of_column_numbers_1_l1 p1 p2 k1 x1 x2 = some r → XR Try.prog 49 0 [] (cd Try.f87 [1,1,1,0,0,0]) Q1 k1 [(0, vl eI p1), (1, vi p2), (2, .one (.pv (.fn 56 []))), (8, vi (p1.length : Int)), (9, vi x1), (10, vi x2)] [] := by
  intro k1
  induction k1 with
  | zero => intro x1 x2 h; rw [slices_BinarySearchFunc_int_int_int_of_column_numbers_1_l1.eq_1] at h; cases h
  | succ k1 ih1 =>
   intro x1 x2 h
   rw [slices_BinarySearchFunc_int_int_int_of_column_numbers_1_l1.eq_2] at h
   refine zq fun K5 hK5 => zq fun K6 hK6 => zr (zg [] 3 [0,1,2,8,9,10,17] (zd (hK6 _ _ (zC h (fun b7 h => ?_) (fun b7 h => ?_)))))
   ·refine zs (hK5 _ _ (zb 1 (zq fun K8 hK8 => ?_)))
    obtain ⟨y1, hy9, h⟩ := zB h
    refine zr (zp [] 5 [0,1,2,8,9,10,22] [] [(0, vl eI p1), (1, vi p2), (2, .one (.pv (.fn 56 []))), (8, vi (p1.length : Int)), (9, vi x1), (10, vi x2), (22, vk .u64 ((IntKind.u64.wrap (IntKind.i64.wrap (x1 + x2))).fdiv (2 ^ (min (1 : Int).toNat (IntKind.u64).bits))))] [] [0 ≤ (1 : Int)] (⟨by decide, trivial⟩) ?_)
    rw [show ((IntKind.u64.wrap (IntKind.i64.wrap (x1 + x2))).fdiv (2 ^ (min (1 : Int).toNat (IntKind.u64).bits))) = y1 from Option.some.inj hy9]
    refine zg [] 2 [0,1,2,8,9,10,11] (zd (hK8 _ _ (zq fun K10 hK10 => ?_)))
    obtain ⟨e1, a11, h⟩ := zB h
    obtain ⟨r1, c12, h⟩ := zB h
    refine zr (zo [] 6 [0,1,2,8,9,10,11,24,28,29] [[pi e1]] [0 ≤ (IntKind.i64.wrap y1) ∧ (IntKind.i64.wrap y1) < ((eI.els p1).length : Int) ∧ elemsOk 1 (eI.els p1), (eI.els p1)[(IntKind.i64.wrap y1).toNat]? = some [pi e1]] (⟨eI.inb a11, (eI.get a11), trivial⟩) (zl 56 [vi e1, vi p2] (vi r1) [(30, vi r1), (0, vl eI p1), (1, vi p2), (2, .one (.pv (.fn 56 []))), (8, vi (p1.length : Int)), (9, vi x1), (10, vi x2), (11, vi (IntKind.i64.wrap y1)), (24, .one (.pv (.fn 56 []))), (28, vi e1), (29, vi p2)] (c_column_numbers_1 _ _ _ c12) (zg [] 1 [0,1,2,8,9,10,11,31] (zd (hK10 _ _ ?_)))))
    refine zC h (fun b13 h => ?_) (fun b13 h => ?_)
    ·exact zr (zg [] 3 [0,1,2,8,9,10] (zd (XR.sub (zk [0,1,2,8,9,10]) (ih1 (IntKind.i64.wrap ((IntKind.i64.wrap y1) + (1 : Int))) x2 h))))
    ·exact zr (zv [] 2 [0,1,2,8,9,10] [] [(0, vl eI p1), (1, vi p2), (2, .one (.pv (.fn 56 []))), (8, vi (p1.length : Int)), (9, vi x1), (10, vi (IntKind.i64.wrap y1))] [] (zd (XR.sub (zk [0,1,2,8,9,10]) (ih1 x1 (IntKind.i64.wrap y1) h))))
   ·exact zx 0 (hQ1 _ _ _ (hJ1 x1 h _ _ (zk [0,1,2,8,9])))
 exact XR.sub (zk [0,1,2,8,9,10]) (hL1 BIG (0 : Int) (p1.length : Int) h)

def column_distinct_int_of_column_numbers_1_j1 (r4 : (List Int)) (l2 : List Int) : Option ((List Int) × (List Int)) :=
    some (r4, l2)

def column_distinct_int_of_column_numbers_1_l1 (p1 : (List Int)) (r4 : (List Int)) : Nat → List Int → Int → Option ((List Int) × (List Int))
  | 0, _, _ => none
  | k1 + 1, l1, x1 =>
    ift (decide (x1 < (p1.length : Int)))
      (bnd (at? p1 x1) fun e1 =>
       bnd (slices_BinarySearchFunc_int_int_int_of_column_numbers_1 r4 e1) fun r5 =>
       grd (l1.length + 1 ≤ 4294967296) <|
       (column_distinct_int_of_column_numbers_1_l1 p1 r4 k1) (l1 ++ [r5.1]) (IntKind.i64.wrap (x1 + (1 : Int))))
      (column_distinct_int_of_column_numbers_1_j1 r4 l1)

def column_distinct_int_of_column_numbers_1_j2 (r7 : (List Int)) (l4 : List Int) : Option ((List Int) × (List Int)) :=
    some (r7, l4)

def column_distinct_int_of_column_numbers_1_l2 (p1 : (List Int)) (r7 : (List Int)) : Nat → List Int → Int → Option ((List Int) × (List Int))
  | 0, _, _ => none
  | k2 + 1, l3, x2 =>
    ift (decide (x2 < (p1.length : Int)))
      (bnd (at? p1 x2) fun e2 =>
       bnd (slices_BinarySearchFunc_int_int_int_of_column_numbers_1 r7 e2) fun r8 =>
       grd (l3.length + 1 ≤ 4294967296) <|
       (column_distinct_int_of_column_numbers_1_l2 p1 r7 k2) (l3 ++ [r8.1]) (IntKind.i64.wrap (x2 + (1 : Int))))
      (column_distinct_int_of_column_numbers_1_j2 r7 l3)

def column_distinct_int_of_column_numbers_1 (p1 : (List Int)) : Option ((List Int) × (List Int)) :=
    ift (decide (0 < p1.length))
      (bnd (slices_Clone_int_int p1) fun r1 =>
       bnd (slices_SortFunc_ints r1) fun r3 =>
       grd (r3.2.length = r1.length) <|
       bnd (slices_CompactFunc_ints r3.2) fun r4 =>
       column_distinct_int_of_column_numbers_1_l1 p1 r4 BIG [] (0 : Int))
      (bnd (slices_Clone_ints_0 p1) fun r2 =>
       bnd (slices_SortFunc_ints_0 r2) fun r6 =>
       bnd (slices_CompactFunc_ints_0 r2) fun r7 =>
       column_distinct_int_of_column_numbers_1_l2 p1 r7 BIG [] (0 : Int))

abbrev qa1086 : List PV := [.fn 56 []]

theorem c_column_distinct_int_of_column_numbers_1 (p1 : (List Int)) (r : ((List Int) × (List Int))) (h : column_distinct_int_of_column_numbers_1 p1 = some r) : PC Try.prog 55 [vl eI p1, .one (.pv (.fn 56 []))] (.tp [vl eI r.1, vl eI r.2]) := by
 unfold column_distinct_int_of_column_numbers_1 at h
 refine zF 38 Try.f55 (zq fun K1 hK1 => zr (zg [] 3 [0,3,5] (zd (hK1 _ _ (zq fun K2 hK2 => ?_)))))
 rcases zW h with ⟨b3, h⟩ | ⟨b3, h⟩
 ·obtain ⟨r1, c4, h⟩ := zB h
  refine zr (zv [] 1 [0,3,5,10] [] [(0, vl eI p1), (3, .one (.pv (.rp [qa1086] 0 0))), (5, .one (.pv (.s (.slice none 0 0)))), (10, vl eI p1)] [] (XO.calx 83 [vl eI p1] [] [.arr 1 (eI.els r1)] [] (.one (.sl 0 1 0 r1.length)) [] [] [(11, .one (.sl 0 1 0 r1.length)), (0, vl eI p1), (3, .one (.pv (.rp [qa1086] 0 0))), (5, .one (.pv (.s (.slice none 0 0)))), (10, vl eI p1)] [.arr 1 (eI.els r1)] (by kernel_rfl) (c_slices_Clone_int_int _ _ c4) (by kernel_rfl) (by kernel_rfl) (by kernel_rfl) (by kernel_rfl) (by kernel_rfl) (by kernel_rfl) (by kernel_rfl) (zg [] 1 [0,3,4,5] (zd (hK2 _ _ ?_)))))
  refine zq fun K6 hK6 => ?_
  obtain ⟨r3, c7, h⟩ := zB h
  obtain ⟨g8, h⟩ := zG h
  refine zr (zv [] 2 [0,3,4,5,12,13] [qa1086] [(0, vl eI p1), (3, .one (.pv (.rp [qa1086] 0 0))), (4, .one (.sl 0 1 0 r1.length)), (5, .one (.pv (.s (.slice none 0 0)))), (12, .one (.sl 0 1 0 r1.length)), (13, .one (.pv (.fn 56 [])))] [.arr 1 (eI.els r1)] ?_)
  refine XO.calm 84 [.one (.sl 0 1 0 r1.length), .one (.pv (.fn 56 []))] [.arr 1 (eI.els r1)] [.arr 1 (eI.els r3.2)] (.tp []) [0] [(14, .tp []), (0, vl eI p1), (3, .one (.pv (.rp [qa1086] 0 0))), (4, .one (.sl 0 1 0 r1.length)), (5, .one (.pv (.s (.slice none 0 0)))), (12, .one (.sl 0 1 0 r1.length)), (13, .one (.pv (.fn 56 [])))] [.arr 1 (eI.els r3.2)] (by kernel_rfl) (c_slices_SortFunc_ints _ _ c7) (by kernel_rfl) (by kernel_rfl) (by kernel_rfl) (by kernel_rfl) ?_
  refine XO.sub (Sub.frame (fr' := [(14, .tp []), (0, vl eI p1), (3, .one (.pv (.rp [[.fn 56 []]] 0 0))), (4, .one (.sl 0 1 0 r3.2.length)), (5, .one (.pv (.s (.slice none 0 0)))), (12, .one (.sl 0 1 0 r3.2.length)), (13, .one (.pv (.fn 56 [])))]) ⟨.rfl _, .rfl _, .rfl _, ALe.of_eq (show (.one (.sl 0 1 0 r1.length) : AV) = .one (.sl 0 1 0 r3.2.length) from by rw [g8]), .rfl _, ALe.of_eq (show (.one (.sl 0 1 0 r1.length) : AV) = .one (.sl 0 1 0 r3.2.length) from by rw [g8]), .rfl _, trivial⟩) (zd (hK6 _ _ (zq fun K9 hK9 => ?_)))
  obtain ⟨r4, c10, h⟩ := zB h
  refine zr (zv [] 2 [0,3,5,15,16] [] [(0, vl eI p1), (3, .one (.pv (.rp [qa1086] 0 0))), (5, .one (.pv (.s (.slice none 0 0)))), (15, .one (.sl 0 1 0 r3.2.length)), (16, .one (.fn 86 [.pv (.rp [qa1086] 0 0)]))] [.arr 1 (eI.els r3.2)] ?_)
  refine XO.calm 85 [.one (.sl 0 1 0 r3.2.length), .one (.fn 86 [.pv (.rp [qa1086] 0 0)])] [.arr 1 (eI.els r3.2)] [.dead] (vl eI r4) [0] [(17, vl eI r4), (0, vl eI p1), (3, .one (.pv (.rp [qa1086] 0 0))), (5, .one (.pv (.s (.slice none 0 0)))), (15, .one (.sl 0 1 0 r3.2.length)), (16, .one (.fn 86 [.pv (.rp [qa1086] 0 0)]))] [.dead] (by kernel_rfl) (c_slices_CompactFunc_ints _ _ c10) (by kernel_rfl) (by kernel_rfl) (by kernel_rfl) (by kernel_rfl) (zg [] 1 [0,3,4,5] (zd (hK9 _ _ (zq fun K11 hK11 => ?_))))
  have hJ1 : ∀ (l2 : List Int), column_distinct_int_of_column_numbers_1_j1 r4 l2 = some r → ∀ fr1 st1, Sub 38 0 [] fr1 st1 [(4, vl eI r4), (5, .one (.sl 1 1 0 l2.length))] [.dead, .arr 1 (eI.els l2)] → K11 fr1 st1 := by
   intro l2 h fr1 st1 hS
   unfold column_distinct_int_of_column_numbers_1_j1 at h
   refine hK11 _ _ (XW.sub hS ?_)
   refine zq fun K22 hK22 => zr (zg [] 4 [4,5] (zd (hK22 _ _ (ze ?_))))
   obtain rfl := Option.some.inj h
   exact zf [vl eI r4, .one (.sl 1 1 0 l2.length)] (.tpc (.one (.rfl _ rfl)) (.tpc (.one (cf_sl eI l2 rfl rfl rfl)) (.tp0)))
  refine zq fun K12 hK12 => zr (zv [] 2 [3,4,5,18,19] [] [(3, .one (.pv (.rp [[.fn 56 []]] 0 0))), (4, vl eI r4), (5, .one (.pv (.s (.slice none 0 0)))), (18, vl eI p1), (19, vi ((eI.els p1).length : Int))] [.dead] ?_)
  rw [eI.len p1]
  refine zv [] 1 [3,4,5,18,19,20] [] [(3, .one (.pv (.rp [[.fn 56 []]] 0 0))), (4, vl eI r4), (5, .one (.pv (.s (.slice none 0 0)))), (18, vl eI p1), (19, vi (p1.length : Int)), (20, vi (0 : Int))] [.dead] (zd (hK12 _ _ (zb 0 (XW.sub (Sub.list (t := 5) (sz := 1) rfl) (XW.rounds' BIG (x := cd Try.f55 [1,1,1,1,0,1,0,0]) (by kernel_rfl) fun Q1 hQ1 => ?_)))))
  have hL1 : ∀ (k1 : Nat) (l1 : List Int) (x1 : Int), column_distinct_int_of_column_numbers_1_l1 p1 r4 k1 l1 x1 = some r → XR Try.prog 38 0 [] (cd Try.f55 [1,1,1,1,0,1,0,0]) Q1 k1 [(3, .one (.pv (.rp [qa1086] 0 0))), (4, vl eI r4), (5, .one (.sl 1 1 0 l1.length)), (18, vl eI p1), (19, vi (p1.length : Int)), (20, vi x1)] [.dead, .arr 1 (eI.els l1)] := by
   intro k1
   induction k1 with
   | zero => intro l1 x1 h; rw [column_distinct_int_of_column_numbers_1_l1.eq_1] at h; cases h
   | succ k1 ih1 =>
    intro l1 x1 h
    rw [column_distinct_int_of_column_numbers_1_l1.eq_2] at h
    refine zq fun K13 hK13 => zr (zg [] 1 [3,4,5,18,19,20,21] (zd (hK13 _ _ (zq fun K14 hK14 => zC h (fun b15 h => ?_) (fun b15 h => ?_)))))
    ·refine zs (hK14 _ _ (zq fun K16 hK16 => zb 1 (zq fun K17 hK17 => ?_)))
     obtain ⟨e1, a18, h⟩ := zB h
     refine zr (zo [] 3 [3,4,5,7,18,19,20] [[pi e1]] [0 ≤ x1 ∧ x1 < ((eI.els p1).length : Int) ∧ elemsOk 1 (eI.els p1), (eI.els p1)[x1.toNat]? = some [pi e1]] (⟨eI.inb a18, (eI.get a18), trivial⟩) (zd (hK17 _ _ (zq fun K19 hK19 => ?_))))
     obtain ⟨r5, c20, h⟩ := zB h
     refine zr (zv [] 3 [3,4,5,18,19,20,25,26,27] [qa1086] [(3, .one (.pv (.rp [qa1086] 0 0))), (4, vl eI r4), (5, .one (.sl 1 1 0 l1.length)), (18, vl eI p1), (19, vi (p1.length : Int)), (20, vi x1), (25, vl eI r4), (26, vi e1), (27, .one (.pv (.fn 56 [])))] [.dead, .arr 1 (eI.els l1)] (za (c_slices_BinarySearchFunc_int_int_int_of_column_numbers_1 _ _ _ c20) (zg [] 5 [3,4,5,8,18,19,20] (zd (hK19 _ _ ?_)))))
     obtain ⟨g21, h⟩ := zG h
     refine zr (zp [] 4 [3,4,18,19,20,34] [] [(3, .one (.pv (.rp [[.fn 56 []]] 0 0))), (4, vl eI r4), (18, vl eI p1), (19, vi (p1.length : Int)), (20, vi x1), (34, .one (.sl 1 1 0 (l1.length + (eI.els [r5.1]).length)))] [.dead, .arr 1 (eI.els l1 ++ eI.els [r5.1])] [elemsOk 1 (eI.els [r5.1]), l1.length = (eI.els l1).length, l1.length + (eI.els [r5.1]).length ≤ 4294967296] (⟨eI.ok _, (eI.len l1).symm, g21, trivial⟩) ?_)
     rw [show l1.length + (eI.els [r5.1]).length = (l1 ++ [r5.1]).length from eI.lapp _ _]
     rw [show eI.els l1 ++ eI.els [r5.1] = eI.els (l1 ++ [r5.1]) from eI.app2 _ _]
     exact zg [] 1 [3,4,5,18,19,20] (zd (hK16 _ _ (zr (zg [] 2 [3,4,5,18,19,20] (zd (XR.sub (zk [3,4,5,18,19,20]) (ih1 (l1 ++ [r5.1]) (IntKind.i64.wrap (x1 + (1 : Int))) h)))))))
    ·exact zx 0 (hQ1 _ _ _ (hJ1 l1 h _ _ (zk [4,5])))
  exact XR.sub (zk [3,4,5,18,19,20]) (hL1 BIG [] (0 : Int) h)
 ·obtain ⟨r2, c5, h⟩ := zB h
  refine zr (zg [] 1 [0,3,5,10] (za (c_slices_Clone_ints_0 _ _ c5) (zv [] 1 [0,3,4,5] [] [(0, vl eI p1), (3, .one (.pv (.rp [qa1086] 0 0))), (4, vl eI r2), (5, .one (.pv (.s (.slice none 0 0))))] [] (zd (hK2 _ _ (zq fun K23 hK23 => ?_))))))
  obtain ⟨r6, c24, h⟩ := zB h
  refine zr (zu [] 2 [0,3,4,5,12,13] [qa1086] (za (c_slices_SortFunc_ints_0 _ _ c24) (zd (hK23 _ _ (zq fun K25 hK25 => ?_)))))
  obtain ⟨r7, c26, h⟩ := zB h
  refine zr (zv [] 2 [0,3,5,15,16] [] [(0, vl eI p1), (3, .one (.pv (.rp [qa1086] 0 0))), (5, .one (.pv (.s (.slice none 0 0)))), (15, vl eI r2), (16, .one (.fn 86 [.pv (.rp [qa1086] 0 0)]))] [] (za (c_slices_CompactFunc_ints_0 _ _ c26) (zg [] 1 [0,3,4,5] (zd (hK25 _ _ (zq fun K27 hK27 => ?_))))))
  have hJ2 : ∀ (l4 : List Int), column_distinct_int_of_column_numbers_1_j2 r7 l4 = some r → ∀ fr1 st1, Sub 38 0 [] fr1 st1 [(4, vl eI r7), (5, .one (.sl 0 1 0 l4.length))] [.arr 1 (eI.els l4)] → K27 fr1 st1 := by
   intro l4 h fr1 st1 hS
   unfold column_distinct_int_of_column_numbers_1_j2 at h
   refine hK27 _ _ (XW.sub hS ?_)
   refine zq fun K38 hK38 => zr (zg [] 4 [4,5] (zd (hK38 _ _ (ze ?_))))
   obtain rfl := Option.some.inj h
   exact zf [vl eI r7, .one (.sl 0 1 0 l4.length)] (.tpc (.one (.rfl _ rfl)) (.tpc (.one (cf_sl eI l4 rfl rfl rfl)) (.tp0)))
  refine zq fun K28 hK28 => zr (zv [] 2 [3,4,5,18,19] [] [(3, .one (.pv (.rp [[.fn 56 []]] 0 0))), (4, vl eI r7), (5, .one (.pv (.s (.slice none 0 0)))), (18, vl eI p1), (19, vi ((eI.els p1).length : Int))] [] ?_)
  rw [eI.len p1]
  refine zv [] 1 [3,4,5,18,19,20] [] [(3, .one (.pv (.rp [[.fn 56 []]] 0 0))), (4, vl eI r7), (5, .one (.pv (.s (.slice none 0 0)))), (18, vl eI p1), (19, vi (p1.length : Int)), (20, vi (0 : Int))] [] (zd (hK28 _ _ (zb 0 (XW.sub (Sub.list (t := 5) (sz := 1) rfl) (XW.rounds' BIG (x := cd Try.f55 [1,1,1,1,0,1,0,0]) (by kernel_rfl) fun Q2 hQ2 => ?_)))))
  have hL2 : ∀ (k2 : Nat) (l3 : List Int) (x2 : Int), column_distinct_int_of_column_numbers_1_l2 p1 r7 k2 l3 x2 = some r → XR Try.prog 38 0 [] (cd Try.f55 [1,1,1,1,0,1,0,0]) Q2 k2 [(3, .one (.pv (.rp [qa1086] 0 0))), (4, vl eI r7), (5, .one (.sl 0 1 0 l3.length)), (18, vl eI p1), (19, vi (p1.length : Int)), (20, vi x2)] [.arr 1 (eI.els l3)] := by
   intro k2
   induction k2 with
   | zero => intro l3 x2 h; rw [column_distinct_int_of_column_numbers_1_l2.eq_1] at h; cases h
   | succ k2 ih2 =>
    intro l3 x2 h
    rw [column_distinct_int_of_column_numbers_1_l2.eq_2] at h
    refine zq fun K29 hK29 => zr (zg [] 1 [3,4,5,18,19,20,21] (zd (hK29 _ _ (zq fun K30 hK30 => zC h (fun b31 h => ?_) (fun b31 h => ?_)))))
    ·refine zs (hK30 _ _ (zq fun K32 hK32 => zb 1 (zq fun K33 hK33 => ?_)))
     obtain ⟨e2, a34, h⟩ := zB h
     refine zr (zo [] 3 [3,4,5,7,18,19,20] [[pi e2]] [0 ≤ x2 ∧ x2 < ((eI.els p1).length : Int) ∧ elemsOk 1 (eI.els p1), (eI.els p1)[x2.toNat]? = some [pi e2]] (⟨eI.inb a34, (eI.get a34), trivial⟩) (zd (hK33 _ _ (zq fun K35 hK35 => ?_))))
     obtain ⟨r8, c36, h⟩ := zB h
     refine zr (zv [] 3 [3,4,5,18,19,20,25,26,27] [qa1086] [(3, .one (.pv (.rp [qa1086] 0 0))), (4, vl eI r7), (5, .one (.sl 0 1 0 l3.length)), (18, vl eI p1), (19, vi (p1.length : Int)), (20, vi x2), (25, vl eI r7), (26, vi e2), (27, .one (.pv (.fn 56 [])))] [.arr 1 (eI.els l3)] (za (c_slices_BinarySearchFunc_int_int_int_of_column_numbers_1 _ _ _ c36) (zg [] 5 [3,4,5,8,18,19,20] (zd (hK35 _ _ ?_)))))
     obtain ⟨g37, h⟩ := zG h
     refine zr (zp [] 4 [3,4,18,19,20,34] [] [(3, .one (.pv (.rp [[.fn 56 []]] 0 0))), (4, vl eI r7), (18, vl eI p1), (19, vi (p1.length : Int)), (20, vi x2), (34, .one (.sl 0 1 0 (l3.length + (eI.els [r8.1]).length)))] [.arr 1 (eI.els l3 ++ eI.els [r8.1])] [elemsOk 1 (eI.els [r8.1]), l3.length = (eI.els l3).length, l3.length + (eI.els [r8.1]).length ≤ 4294967296] (⟨eI.ok _, (eI.len l3).symm, g37, trivial⟩) ?_)
     rw [show l3.length + (eI.els [r8.1]).length = (l3 ++ [r8.1]).length from eI.lapp _ _]
     rw [show eI.els l3 ++ eI.els [r8.1] = eI.els (l3 ++ [r8.1]) from eI.app2 _ _]
     exact zg [] 1 [3,4,5,18,19,20] (zd (hK32 _ _ (zr (zg [] 2 [3,4,5,18,19,20] (zd (XR.sub (zk [3,4,5,18,19,20]) (ih2 (l3 ++ [r8.1]) (IntKind.i64.wrap (x2 + (1 : Int))) h)))))))
    ·exact zx 0 (hQ2 _ _ _ (hJ2 l3 h _ _ (zk [4,5])))
  exact XR.sub (zk [3,4,5,18,19,20]) (hL2 BIG [] (0 : Int) h)

def column_number_s_2_j1 (l2 : List Int) (x2 : Int) : Option (List Int) :=
    grd (l2.length + 1 ≤ 4294967296) <|
    some (l2 ++ [(IntKind.u8.wrap x2)])

def column_number_s_2_l1 : Nat → List Int → Int → Option (List Int)
  | 0, _, _ => none
  | k1 + 1, l1, x1 =>
    ift (decide ((128 : Int) ≤ x1))
      (bnd (some (IntKind.u8.wrap (BitVec.ofInt (IntKind.u8).bits (IntKind.u8.wrap x1) ||| BitVec.ofInt (IntKind.u8).bits (128 : Int)).toNat)) fun y1 =>
       grd (l1.length + 1 ≤ 4294967296) <|
       (column_number_s_2_l1 k1) (l1 ++ [y1]) (x1.fdiv (2 ^ (min (7 : Int).toNat (IntKind.u64).bits))))
      (column_number_s_2_j1 l1 x1)

def column_number_s_2 (p1 : Int) : Option (List Int) :=
    column_number_s_2_l1 BIG [] p1


theorem c_column_number_s_2 (p1 : Int) (r : (List Int)) (h : column_number_s_2 p1 = some r) : MX Try.prog 57 [.one (.pv (.s (.slice none 0 0))), vk .u64 p1] [] [] (.one (.sl 0 1 0 r.length)) [.arr 1 ((eK .u8).els r)] := by
 unfold column_number_s_2 at h
 refine MX.of 0 1 rfl (n := 20) (fn := Try.f57) (c := cd Try.f57 []) (by kernel_rfl) (by kernel_rfl) (by kernel_rfl) (Nat.le_of_ble_eq_true rfl) rfl (zq fun K1 hK1 => zr (zg [] 1 [0,1] (zd (hK1 _ _ (zq fun K2 hK2 => ?_)))))
 have hJ1 : ∀ (l2 : List Int) (x2 : Int), column_number_s_2_j1 l2 x2 = some r → ∀ fr1 st1, Sub 20 0 [] fr1 st1 [(0, .one (.sl 0 1 0 l2.length)), (1, vk .u64 x2)] [.arr 1 ((eK .u8).els l2)] → K2 fr1 st1 := by
  intro l2 x2 h fr1 st1 hS
  unfold column_number_s_2_j1 at h
  refine hK2 _ _ (XW.sub hS ?_)
  refine zq fun K9 hK9 => ?_
  obtain ⟨g10, h⟩ := zG h
  refine zr (zp [] 5 [19] [] [(19, .one (.sl 0 1 0 (l2.length + ((eK .u8).els [(IntKind.u8.wrap x2)]).length)))] [.arr 1 ((eK .u8).els l2 ++ (eK .u8).els [(IntKind.u8.wrap x2)])] [elemsOk 1 ((eK .u8).els [(IntKind.u8.wrap x2)]), l2.length = ((eK .u8).els l2).length, l2.length + ((eK .u8).els [(IntKind.u8.wrap x2)]).length ≤ 4294967296] (⟨(eK .u8).ok _, ((eK .u8).len l2).symm, g10, trivial⟩) ?_)
  rw [show l2.length + ((eK .u8).els [(IntKind.u8.wrap x2)]).length = (l2 ++ [(IntKind.u8.wrap x2)]).length from (eK .u8).lapp _ _]
  rw [show (eK .u8).els l2 ++ (eK .u8).els [(IntKind.u8.wrap x2)] = (eK .u8).els (l2 ++ [(IntKind.u8.wrap x2)]) from (eK .u8).app2 _ _]
  refine zv [] 1 [4] [] [(4, .one (.sl 0 1 0 ((l2 ++ [(IntKind.u8.wrap x2)]).length)))] [.arr 1 ((eK .u8).els (l2 ++ [(IntKind.u8.wrap x2)]))] (zd (hK9 _ _ (ze ?_)))
  obtain rfl := Option.some.inj h
  exact FinM.fin (.inr rfl) [] [.one (.sl 0 1 0 ((l2 ++ [(IntKind.u8.wrap x2)]).length))] [] (by kernel_rfl) trivial (by kernel_rfl) (by kernel_rfl) (.one (.rfl _ rfl))
 refine zb 0 (XW.sub (Sub.list (t := 0) (sz := 1) rfl) (XW.rounds' BIG (x := cd Try.f57 [1,0,0,0]) (by kernel_rfl) fun Q1 hQ1 => ?_))
 have hL1 : ∀ (k1 : Nat) (l1 : List Int) (x1 : Int), column_number_s_2_l1 k1 l1 x1 = some r → XR Try.prog 20 0 [] (cd Try.f57 [1,0,0,0]) Q1 k1 [(0, .one (.sl 0 1 0 l1.length)), (1, vk .u64 x1)] [.arr 1 ((eK .u8).els l1)] := by
  intro k1
  induction k1 with
  | zero => intro l1 x1 h; rw [column_number_s_2_l1.eq_1] at h; cases h
  | succ k1 ih1 =>
   intro l1 x1 h
   rw [column_number_s_2_l1.eq_2] at h
   refine zq fun K3 hK3 => zq fun K4 hK4 => zr (zg [] 2 [0,1,6] (zd (hK4 _ _ (zC h (fun b5 h => ?_) (fun b5 h => ?_)))))
   ·refine zs (hK3 _ _ (zq fun K6 hK6 => zb 1 ?_))
    obtain ⟨y1, hy7, h⟩ := zB h
    obtain ⟨g8, h⟩ := zG h
    refine zr (zv [] 4 [1,9,12] [] [(1, vk .u64 x1), (9, .one (.sl 0 1 0 l1.length)), (12, vk .u8 (IntKind.u8.wrap (BitVec.ofInt (IntKind.u8).bits (IntKind.u8.wrap x1) ||| BitVec.ofInt (IntKind.u8).bits (128 : Int)).toNat))] [.arr 1 ((eK .u8).els l1)] ?_)
    rw [show (IntKind.u8.wrap (BitVec.ofInt (IntKind.u8).bits (IntKind.u8.wrap x1) ||| BitVec.ofInt (IntKind.u8).bits (128 : Int)).toNat) = y1 from Option.some.inj hy7]
    refine zp [] 2 [1,14] [] [(1, vk .u64 x1), (14, .one (.sl 0 1 0 (l1.length + ((eK .u8).els [y1]).length)))] [.arr 1 ((eK .u8).els l1 ++ (eK .u8).els [y1])] [elemsOk 1 ((eK .u8).els [y1]), l1.length = ((eK .u8).els l1).length, l1.length + ((eK .u8).els [y1]).length ≤ 4294967296] (⟨(eK .u8).ok _, ((eK .u8).len l1).symm, g8, trivial⟩) ?_
    rw [show l1.length + ((eK .u8).els [y1]).length = (l1 ++ [y1]).length from (eK .u8).lapp _ _]
    rw [show (eK .u8).els l1 ++ (eK .u8).els [y1] = (eK .u8).els (l1 ++ [y1]) from (eK .u8).app2 _ _]
    exact zg [] 1 [0,1] (zd (hK6 _ _ (zr (zo [] 3 [0,1] [] [0 ≤ (7 : Int)] (⟨by decide, trivial⟩) (zd (XR.sub (zk [0,1]) (ih1 (l1 ++ [y1]) (x1.fdiv (2 ^ (min (7 : Int).toNat (IntKind.u64).bits))) h)))))))
   ·exact zx 0 (hQ1 _ _ _ (hJ1 l1 x1 h _ _ (zk [0,1])))
 exact XR.sub (zk [0,1]) (hL1 BIG [] p1 h)

def column_numbers_2_s (p1 : Int) (p2 : (List Int)) (p3 : (List Int)) : Option (Unit × (List Int)) :=
    bnd (at? p2 p1) fun e1 =>
    bnd (column_signed_s e1 p3) fun r1 =>
    some ((), r1.2)


theorem c_column_numbers_2_s (p1 : Int) (p2 : (List Int)) (p3 : (List Int)) (r : (Unit × (List Int))) (h : column_numbers_2_s p1 p2 p3 = some r) : MX Try.prog 59 [.one (.sl 0 1 0 p3.length), vi p1, .one (.pv (.rp [[.ro (eI.els p2)]] 0 0))] [.arr 1 ((eK .u8).els p3)] [0] (.one (.sl 0 1 0 r.2.length)) [.arr 1 ((eK .u8).els r.2)] := by
 unfold column_numbers_2_s at h
 refine MX.of 1 1 rfl (n := 12) (fn := Try.f59) (c := cd Try.f59 []) (by kernel_rfl) (by kernel_rfl) (by kernel_rfl) (Nat.le_of_ble_eq_true rfl) rfl (zq fun K1 hK1 => zr (zg [] 1 [0,1,2] (zd (hK1 _ _ (zq fun K2 hK2 => ?_)))))
 obtain ⟨e1, a3, h⟩ := zB h
 obtain ⟨r1, c4, h⟩ := zB h
 refine zr (zp [] 5 [6,10] [[.ro (eI.els p2)], [pi e1]] [(6, .one (.sl 0 1 0 p3.length)), (10, vi e1)] [.arr 1 ((eK .u8).els p3)] [([[.ro (eI.els p2)]] : List (List PV))[0]? = some [.ro (eI.els p2)], 0 ≤ p1 ∧ p1 < ((eI.els p2).length : Int) ∧ elemsOk 1 (eI.els p2), (eI.els p2)[p1.toNat]? = some [pi e1]] (⟨rfl, eI.inb a3, (eI.get a3), trivial⟩) ?_)
 refine XO.calx 60 [.one (.sl 0 1 0 p3.length), vi e1] [.arr 1 ((eK .u8).els p3)] [.arr 1 ((eK .u8).els r1.2)] [0] (.one (.sl 0 1 0 r1.2.length)) [0] [0] [(11, .one (.sl 0 1 0 r1.2.length)), (6, .j), (10, vi e1)] [.arr 1 ((eK .u8).els r1.2)] (by kernel_rfl) (c_column_signed_s _ _ _ c4) (by kernel_rfl) (by kernel_rfl) (by kernel_rfl) (by kernel_rfl) (by kernel_rfl) (by kernel_rfl) (by kernel_rfl) (zv [] 1 [5] [] [(5, .one (.sl 0 1 0 r1.2.length))] [.arr 1 ((eK .u8).els r1.2)] (zd (hK2 _ _ (ze ?_))))
 obtain rfl := Option.some.inj h
 exact FinM.fin (.inr rfl) [] [.one (.sl 0 1 0 r1.2.length)] [] (by kernel_rfl) trivial (by kernel_rfl) (by kernel_rfl) (.one (.rfl _ rfl))

def column_each_of_column_numbers_2_j1 (l2 : List Int) : Option (List Int) :=
    some l2

def column_each_of_column_numbers_2_l1 (p1 : (List Int)) (p2 : (List Int)) : Nat → List Int → Int → Option (List Int)
  | 0, _, _ => none
  | k1 + 1, l1, x1 =>
    ift (decide (x1 < (p1.length : Int)))
      (bnd (column_numbers_2_s x1 p2 l1) fun r1 =>
       (column_each_of_column_numbers_2_l1 p1 p2 k1) r1.2 (IntKind.i64.wrap (x1 + (1 : Int))))
      (column_each_of_column_numbers_2_j1 l1)

def column_each_of_column_numbers_2 (p1 : (List Int)) (p2 : (List Int)) : Option (List Int) :=
    column_each_of_column_numbers_2_l1 p1 p2 BIG [] (0 : Int)


theorem c_column_each_of_column_numbers_2 (p1 : (List Int)) (p2 : (List Int)) (r : (List Int)) (h : column_each_of_column_numbers_2 p1 p2 = some r) : PC Try.prog 58 [vl eI p1, .one (.fn 59 [.pv (.rp [[.ro (eI.els p2)]] 0 0)])] (vl (eK .u8) r) := by
 unfold column_each_of_column_numbers_2 at h
 refine zF 18 Try.f58 (zq fun K1 hK1 => zr (zg [] 1 [0,1] (zd (hK1 _ _ (zq fun K2 hK2 => zr ?_)))))
 refine zg [] 1 [0,1,5] (zd (hK2 _ _ (zq fun K3 hK3 => ?_)))
 have hJ1 : ∀ (l2 : List Int), column_each_of_column_numbers_2_j1 l2 = some r → ∀ fr1 st1, Sub 18 0 [] fr1 st1 [(5, .one (.sl 0 1 0 l2.length))] [.arr 1 ((eK .u8).els l2)] → K3 fr1 st1 := by
  intro l2 h fr1 st1 hS
  unfold column_each_of_column_numbers_2_j1 at h
  refine hK3 _ _ (XW.sub hS ?_)
  refine zq fun K11 hK11 => zr (zg [] 2 [4] (zd (hK11 _ _ (ze ?_))))
  obtain rfl := Option.some.inj h
  exact zf [.one (.sl 0 1 0 l2.length)] (.one (cf_sl (eK .u8) l2 rfl rfl rfl))
 refine zq fun K4 hK4 => zr (zv [] 2 [1,5,8] [] [(1, .one (.fn 59 [.pv (.rp [[.ro (eI.els p2)]] 0 0)])), (5, .one (.pv (.s (.slice none 0 0)))), (8, vi ((eI.els p1).length : Int))] [] ?_)
 rw [eI.len p1]
 refine zv [] 1 [1,5,8,9] [] [(1, .one (.fn 59 [.pv (.rp [[.ro (eI.els p2)]] 0 0)])), (5, .one (.pv (.s (.slice none 0 0)))), (8, vi (p1.length : Int)), (9, vi (0 : Int))] [] (zd (hK4 _ _ (zb 0 (XW.sub (Sub.list (t := 5) (sz := 1) rfl) (XW.rounds' BIG (x := cd Try.f58 [1,1,0,1,0,0]) (by kernel_rfl) fun Q1 hQ1 => ?_)))))
 have hL1 : ∀ (k1 : Nat) (l1 : List Int) (x1 : Int), column_each_of_column_numbers_2_l1 p1 p2 k1 l1 x1 = some r → XR Try.prog 18 0 [] (cd Try.f58 [1,1,0,1,0,0]) Q1 k1 [(1, .one (.fn 59 [.pv (.rp [[.ro (eI.els p2)]] 0 0)])), (5, .one (.sl 0 1 0 l1.length)), (8, vi (p1.length : Int)), (9, vi x1)] [.arr 1 ((eK .u8).els l1)] := by
  intro k1
  induction k1 with
  | zero => intro l1 x1 h; rw [column_each_of_column_numbers_2_l1.eq_1] at h; cases h
  | succ k1 ih1 =>
   intro l1 x1 h
   rw [column_each_of_column_numbers_2_l1.eq_2] at h
   refine zq fun K5 hK5 => zr (zg [] 1 [1,5,8,9,10] (zd (hK5 _ _ (zq fun K6 hK6 => zC h (fun b7 h => ?_) (fun b7 h => ?_)))))
   ·refine zs (hK6 _ _ (zq fun K8 hK8 => zb 1 (zq fun K9 hK9 => zr (zg [] 2 [1,5,6,8,9] (zd ?_)))))
    refine hK9 _ _ ?_
    obtain ⟨r1, c10, h⟩ := zB h
    refine zr (zv [] 3 [1,8,9,12,13,14] [] [(1, .one (.fn 59 [.pv (.rp [[.ro (eI.els p2)]] 0 0)])), (8, vi (p1.length : Int)), (9, vi x1), (12, .one (.fn 59 [.pv (.rp [[.ro (eI.els p2)]] 0 0)])), (13, .one (.sl 0 1 0 l1.length)), (14, vi x1)] [.arr 1 ((eK .u8).els l1)] ?_)
    refine XO.calx 59 [.one (.sl 0 1 0 l1.length), vi x1, .one (.pv (.rp [[.ro (eI.els p2)]] 0 0))] [.arr 1 ((eK .u8).els l1)] [.arr 1 ((eK .u8).els r1.2)] [0] (.one (.sl 0 1 0 r1.2.length)) [0] [0] [(15, .one (.sl 0 1 0 r1.2.length)), (1, .one (.fn 59 [.pv (.rp [[.ro (eI.els p2)]] 0 0)])), (8, vi (p1.length : Int)), (9, vi x1), (12, .one (.fn 59 [.pv (.rp [[.ro (eI.els p2)]] 0 0)])), (13, .j), (14, vi x1)] [.arr 1 ((eK .u8).els r1.2)] (by kernel_rfl) (c_column_numbers_2_s _ _ _ _ c10) (by kernel_rfl) (by kernel_rfl) (by kernel_rfl) (by kernel_rfl) (by kernel_rfl) (by kernel_rfl) (by kernel_rfl) ?_
    exact zg [] 1 [1,5,8,9] (zd (hK8 _ _ (zr (zg [] 2 [1,5,8,9] (zd (XR.sub (zk [1,5,8,9]) (ih1 r1.2 (IntKind.i64.wrap (x1 + (1 : Int))) h)))))))
   ·exact zx 0 (hQ1 _ _ _ (hJ1 l1 h _ _ (zk [5])))
 exact XR.sub (zk [1,5,8,9]) (hL1 BIG [] (0 : Int) h)

def column_numbers (p1 : Int) (p2 : (List Int)) : Option (List Int) :=
    ift (p1 == (1 : Int))
      (bnd (column_runs p2) fun r1 =>
       some r1)
      (ift (p1 == (2 : Int))
         (bnd (column_delta p2) fun r2 =>
          some r2)
         (ift (p1 == (3 : Int))
            (bnd (column_frame p2) fun r3 =>
             some r3)
            (ift (p1 == (4 : Int))
               (bnd (column_distinct_int_of_column_numbers_1 p2) fun r4 =>
                bnd (column_number_s_2 (IntKind.u64.wrap (r4.1.length : Int))) fun r5 =>
                bnd (column_delta r4.1) fun r6 =>
                grd (r5.length + r6.length ≤ 4294967296) <|
                bnd (column_frame r4.2) fun r7 =>
                grd ((r5 ++ r6).length + r7.length ≤ 4294967296) <|
                some ((r5 ++ r6) ++ r7))
               (bnd (column_each_of_column_numbers_2 p2 p2) fun r8 =>
                some r8))))


theorem c_column_numbers (p1 : Int) (p2 : (List Int)) (r : (List Int)) (h : column_numbers p1 p2 = some r) : PC Try.prog 39 [vi p1, vl eI p2] (vl (eK .u8) r) := by
 unfold column_numbers at h
 refine zF 42 Try.f39 (zq fun K1 hK1 => zr (zg [] 2 [0,3] (zd (hK1 _ _ (zq fun K2 hK2 => zq fun K3 hK3 => ?_)))))
 refine zr (zg [] 1 [3,8] (zd (hK3 _ _ (zb 0 (zq fun K4 hK4 => zr (zv [] 2 [3,8,9] [] [(3, .one (.pv (.rp [[.ro (eI.els p2)]] 0 0))), (8, vi p1), (9, vb (p1 == (1 : Int)))] [] ?_))))))
 refine zd (hK4 _ _ (zC h (fun b5 h => ?_) (fun b5 h => ?_)))
 ·refine zq fun K6 hK6 => ?_
  obtain ⟨r1, c7, h⟩ := zB h
  refine zr (zu [] 1 [11] [[.ro (eI.els p2)]] (za (c_column_runs _ _ c7) (zv [] 1 [4] [] [(4, vl (eK .u8) r1)] [] (zd (hK6 _ _ (ze ?_))))))
  obtain rfl := Option.some.inj h
  exact zf [vl (eK .u8) r1] (.one (.rfl _ rfl))
 ·refine zq fun K8 hK8 => zr (zg [] 2 [3,8,13] (zd (hK8 _ _ (zC h (fun b9 h => ?_) (fun b9 h => ?_)))))
  ·refine zq fun K10 hK10 => ?_
   obtain ⟨r2, c11, h⟩ := zB h
   refine zr (zu [] 1 [15] [[.ro (eI.els p2)]] (zl 53 [vl eI p2] (vl (eK .u8) r2) [(16, vl (eK .u8) r2), (15, vl eI p2)] (c_column_delta _ _ c11) (zg [] 1 [4] (zd (hK10 _ _ (ze ?_))))))
   obtain rfl := Option.some.inj h
   exact zf [vl (eK .u8) r2] (.one (.rfl _ rfl))
  ·refine zq fun K12 hK12 => zr (zg [] 2 [3,8,17] (zd (hK12 _ _ (zC h (fun b13 h => ?_) (fun b13 h => ?_)))))
   ·refine zq fun K14 hK14 => ?_
    obtain ⟨r3, c15, h⟩ := zB h
    refine zr (zv [] 1 [19] [[.ro (eI.els p2)]] [(19, vl eI p2)] [] (za (c_column_frame _ _ c15) (zg [] 1 [4] (zd (hK14 _ _ (ze ?_))))))
    obtain rfl := Option.some.inj h
    exact zf [vl (eK .u8) r3] (.one (.rfl _ rfl))
   ·refine zq fun K16 hK16 => zr (zv [] 2 [3,21] [] [(3, .one (.pv (.rp [[.ro (eI.els p2)]] 0 0))), (21, vb (p1 == (4 : Int)))] [] (zd (hK16 _ _ (zC h (fun b17 h => ?_) (fun b17 h => ?_)))))
    ·refine zq fun K18 hK18 => ?_
     obtain ⟨r4, c19, h⟩ := zB h
     refine zr (zu [] 1 [24] [[.ro (eI.els p2)]] (za (c_column_distinct_int_of_column_numbers_1 _ _ c19) (zv [] 5 [5,6] [] [(5, vl eI r4.1), (6, vl eI r4.2)] [] (zd (hK18 _ _ (zq fun K20 hK20 => ?_))))))
     obtain ⟨r5, c21, h⟩ := zB h
     obtain ⟨r6, c22, h⟩ := zB h
     obtain ⟨g23, h⟩ := zG h
     refine zr (zv [] 2 [5,6,29] [] [(5, vl eI r4.1), (6, vl eI r4.2), (29, vi ((eI.els r4.1).length : Int))] [] ?_)
     rw [eI.len r4.1]
     refine zv [] 1 [5,6,30] [] [(5, vl eI r4.1), (6, vl eI r4.2), (30, vk .u64 (IntKind.u64.wrap (r4.1.length : Int)))] [] (XO.calx 57 [.one (.pv (.s (.slice none 0 0))), vk .u64 (IntKind.u64.wrap (r4.1.length : Int))] [] [.arr 1 ((eK .u8).els r5)] [] (.one (.sl 0 1 0 r5.length)) [] [] [(31, .one (.sl 0 1 0 r5.length)), (5, vl eI r4.1), (6, vl eI r4.2), (30, vk .u64 (IntKind.u64.wrap (r4.1.length : Int)))] [.arr 1 ((eK .u8).els r5)] (by kernel_rfl) (c_column_number_s_2 _ _ c21) (by kernel_rfl) (by kernel_rfl) (by kernel_rfl) (by kernel_rfl) (by kernel_rfl) (by kernel_rfl) (by kernel_rfl) ?_)
     refine zg [] 1 [6,31,32] (za (c_column_delta _ _ c22) ?_)
     refine zp [] 1 [6,34] [] [(6, vl eI r4.2), (34, .one (.sl 0 1 0 (r5.length + ((eK .u8).els r6).length)))] [.arr 1 ((eK .u8).els r5 ++ (eK .u8).els r6)] [elemsOk 1 ((eK .u8).els r6), r5.length = ((eK .u8).els r5).length, r5.length + ((eK .u8).els r6).length ≤ 4294967296] (⟨(eK .u8).ok _, ((eK .u8).len r5).symm, (by rw [(eK .u8).len]; exact g23), trivial⟩) ?_
     rw [show r5.length + ((eK .u8).els r6).length = (r5 ++ r6).length from (eK .u8).lapp _ _]
     rw [show (eK .u8).els r5 ++ (eK .u8).els r6 = (eK .u8).els (r5 ++ r6) from (eK .u8).app2 _ _]
     refine zg [] 1 [6,7] (zd (hK20 _ _ (zq fun K24 hK24 => ?_)))
     obtain ⟨r7, c25, h⟩ := zB h
     obtain ⟨g26, h⟩ := zG h
     refine zr (zg [] 2 [35,36] (zl 54 [vl eI r4.2] (vl (eK .u8) r7) [(37, vl (eK .u8) r7), (35, .one (.sl 0 1 0 ((r5 ++ r6).length))), (36, vl eI r4.2)] (c_column_frame _ _ c25) ?_))
     refine zp [] 1 [38] [] [(38, .one (.sl 0 1 0 ((r5 ++ r6).length + ((eK .u8).els r7).length)))] [.arr 1 ((eK .u8).els (r5 ++ r6) ++ (eK .u8).els r7)] [elemsOk 1 ((eK .u8).els r7), (r5 ++ r6).length = ((eK .u8).els (r5 ++ r6)).length, (r5 ++ r6).length + ((eK .u8).els r7).length ≤ 4294967296] (⟨(eK .u8).ok _, ((eK .u8).len (r5 ++ r6)).symm, (by rw [(eK .u8).len]; exact g26), trivial⟩) ?_
     rw [show (r5 ++ r6).length + ((eK .u8).els r7).length = ((r5 ++ r6) ++ r7).length from (eK .u8).lapp _ _]
     rw [show (eK .u8).els (r5 ++ r6) ++ (eK .u8).els r7 = (eK .u8).els ((r5 ++ r6) ++ r7) from (eK .u8).app2 _ _]
     refine zg [] 1 [4] (zd (hK24 _ _ (ze ?_)))
     obtain rfl := Option.some.inj h
     exact zf [.one (.sl 0 1 0 (((r5 ++ r6) ++ r7).length))] (.one (cf_sl (eK .u8) ((r5 ++ r6) ++ r7) rfl rfl rfl))
    ·refine zs (hK2 _ _ (zq fun K27 hK27 => ?_))
     obtain ⟨r8, c28, h⟩ := zB h
     refine zr (zu [] 2 [39,40] [[.ro (eI.els p2)]] (zl 58 [vl eI p2, .one (.fn 59 [.pv (.rp [[.ro (eI.els p2)]] 0 0)])] (vl (eK .u8) r8) [(41, vl (eK .u8) r8), (39, vl eI p2), (40, .one (.fn 59 [.pv (.rp [[.ro (eI.els p2)]] 0 0)]))] (c_column_each_of_column_numbers_2 _ _ _ c28) (zg [] 1 [4] (zd (hK27 _ _ (ze ?_))))))
     obtain rfl := Option.some.inj h
     exact zf [vl (eK .u8) r8] (.one (.rfl _ rfl))

def slices_Clip_byte_byte (p1 : (List Int)) : Option (List Int) :=
    grd (0 ≤ (0 : Int) ∧ (0 : Int) ≤ (p1.length : Int) ∧ (p1.length : Int) ≤ (p1.length : Int) ∧ (p1.length : Int) ≤ (p1.length : Int)) <|
    some ((p1.drop (0 : Int).toNat).take ((p1.length : Int).toNat - (0 : Int).toNat))


theorem c_slices_Clip_byte_byte (p1 : (List Int)) (r : (List Int)) (h : slices_Clip_byte_byte p1 = some r) : PC Try.prog 33 [vl (eK .u8) p1] (vl (eK .u8) r) := by
 unfold slices_Clip_byte_byte at h
 refine zF 9 Try.f33 (zq fun K1 hK1 => zr (zg [] 1 [0] (zd (hK1 _ _ (zq fun K2 hK2 => ?_)))))
 obtain ⟨g3, h⟩ := zG h
 refine zr (zv [] 3 [0,3,5] [] [(0, vl (eK .u8) p1), (3, vl (eK .u8) p1), (5, vi (((eK .u8).els p1).length : Int))] [] ?_)
 rw [(eK .u8).len p1]
 refine zv [] 2 [3,5,7] [] [(3, vl (eK .u8) p1), (5, vi (p1.length : Int)), (7, vi (((eK .u8).els p1).length : Int))] [] ?_
 rw [(eK .u8).len p1]
 refine zp [] 1 [8] [] [(8, .one (.pv (.ro ((((eK .u8).els p1).drop (0 : Int).toNat).take ((p1.length : Int).toNat - (0 : Int).toNat)))))] [] [(0 ≤ (0 : Int) ∧ (0 : Int) ≤ (p1.length : Int) ∧ (p1.length : Int) ≤ (p1.length : Int) ∧ (p1.length : Int) ≤ (((eK .u8).els p1).length : Int)) ∧ elemsOk 1 ((eK .u8).els p1)] (⟨(eK .u8).cutMOk g3, trivial⟩) ?_
 rw [show (((eK .u8).els p1).drop (0 : Int).toNat).take ((p1.length : Int).toNat - (0 : Int).toNat) = (eK .u8).els ((p1.drop (0 : Int).toNat).take ((p1.length : Int).toNat - (0 : Int).toNat)) from (eK .u8).cut _ _ _]
 refine zg [] 1 [2] (zd (hK2 _ _ (ze ?_)))
 obtain rfl := Option.some.inj h
 exact zf [vl (eK .u8) ((p1.drop (0 : Int).toNat).take ((p1.length : Int).toNat - (0 : Int).toNat))] (.one (.rfl _ rfl))

def column_Numbers_j1 (p1 : Int) (p2 : (List Int)) (x1 : Bool) : Option ((List Int) × Int) :=
    ift x1
      (some ([], (3 : Int)))
      (bnd (column_numbers p1 p2) fun r2 =>
       bnd (slices_Clip_byte_byte r2) fun r3 =>
       some (r3, (0 : Int)))

def column_Numbers (p1 : Int) (p2 : (List Int)) : Option ((List Int) × Int) :=
    ift (decide (p1 < (0 : Int)))
      (column_Numbers_j1 p1 p2 true)
      (ift (decide ((4 : Int) < p1))
         (column_Numbers_j1 p1 p2 true)
         (bnd (slices_ContainsFunc_int_int_of_column_outside p2) fun r1 =>
          column_Numbers_j1 p1 p2 r1))


theorem c_column_Numbers (p1 : Int) (p2 : (List Int)) (r : ((List Int) × Int)) (h : column_Numbers p1 p2 = some r) : PC Try.prog 21 [vi p1, vl eI p2] (.tp [vl (eK .u8) r.1, vi r.2]) := by
 unfold column_Numbers at h
 refine zF 20 Try.f21 (zq fun K1 hK1 => zr (zg [] 2 [0,1] (zd (hK1 _ _ (zq fun K2 hK2 => zq fun K3 hK3 => ?_)))))
 have hJ1 : ∀ (x1 : Bool), column_Numbers_j1 p1 p2 x1 = some r → ∀ fr1 st1, Sub 20 0 [] fr1 st1 [(0, vi p1), (1, vl eI p2), (15, vb x1)] [] → K3 fr1 st1 := by
  intro x1 h fr1 st1 hS
  unfold column_Numbers_j1 at h
  refine hK3 _ _ (XW.sub hS ?_)
  refine zC h (fun b7 h => ?_) (fun b7 h => ?_)
  ·refine zq fun K8 hK8 => zr (zg [] 2 [4,5] (zd (hK8 _ _ (ze ?_))))
   obtain rfl := Option.some.inj h
   exact zf [.one (.pv (.s (.slice none 0 0))), vi (3 : Int)] (.tpc (.one (.nl)) (.tpc (.one (.rfl _ rfl)) (.tp0)))
  ·refine zs (hK2 _ _ (zq fun K9 hK9 => ?_))
   obtain ⟨r2, c10, h⟩ := zB h
   obtain ⟨r3, c11, h⟩ := zB h
   refine zr (zg [] 2 [16,17] (zl 39 [vi p1, vl eI p2] (vl (eK .u8) r2) [(18, vl (eK .u8) r2), (16, vi p1), (17, vl eI p2)] (c_column_numbers _ _ _ c10) (za (c_slices_Clip_byte_byte _ _ c11) (zg [] 2 [4,5] (zd (hK9 _ _ (ze ?_)))))))
   obtain rfl := Option.some.inj h
   exact zf [vl (eK .u8) r3, vi (0 : Int)] (.tpc (.one (.rfl _ rfl)) (.tpc (.one (.rfl _ rfl)) (.tp0)))
 rcases zW h with ⟨b4, h⟩ | ⟨b4, h⟩
 ·exact zr (zg [] 3 [0,1,8] (zt 8 b4 (zv [] 7 [0,1,15] [] [(0, vi p1), (1, vl eI p2), (15, vb true)] [] (zd (hJ1 true h _ _ (zk [0,1,15]))))))
 ·rcases zW h with ⟨b5, h⟩ | ⟨b5, h⟩
  ·exact zr (zg [] 3 [0,1,8] (zt 8 b4 (zg [] 4 [0,1,12] (zt 12 b5 (zv [] 3 [0,1,15] [] [(0, vi p1), (1, vl eI p2), (15, vb true)] [] (zd (hJ1 true h _ _ (zk [0,1,15]))))))))
  ·obtain ⟨r1, c6, h⟩ := zB h
   refine zr (zg [] 3 [0,1,8] (zt 8 b4 (zg [] 4 [0,1,12] (zt 12 b5 (zv [] 1 [0,1,12,13] [] [(0, vi p1), (1, vl eI p2), (12, vb false), (13, vl eI p2)] [] (za (c_slices_ContainsFunc_int_int_of_column_outside _ _ c6) (zg [] 1 [0,1,15] ?_)))))))
   exact zd (hJ1 r1 h _ _ (zk [0,1,15]))

def ref2_inRange_j1 (rec1 : Int → Option Bool) (x1 : Int) (x2 : Bool) : Option Bool :=
    ift x2
      (some false)
      (rec1 (IntKind.i64.wrap (x1 + (1 : Int))))

def ref2_inRange_j2 : Option Bool :=
    some true

def ref2_inRange_l1 (p1 : (List Int)) : Nat → Int → Option Bool
  | 0, _ => none
  | k1 + 1, x1 =>
    ift (decide (x1 < (p1.length : Int)))
      (bnd (at? p1 x1) fun e1 =>
       ift (decide (e1 < (-2000000000000000000 : Int)))
         (ref2_inRange_j1 (ref2_inRange_l1 p1 k1) x1 true)
         (ref2_inRange_j1 (ref2_inRange_l1 p1 k1) x1 (decide ((2000000000000000000 : Int) < e1))))
      (ref2_inRange_j2)

def ref2_inRange (p1 : (List Int)) : Option Bool :=
    ref2_inRange_l1 p1 BIG (0 : Int)


theorem c_ref2_inRange (p1 : (List Int)) (r : Bool) (h : ref2_inRange p1 = some r) : PC Try.prog 40 [vl eI p1] (vb r) := by
 unfold ref2_inRange at h
 refine zF 18 Try.f40 (zq fun K1 hK1 => zr (zg [] 1 [0] (zd (hK1 _ _ (zq fun K2 hK2 => ?_)))))
 have hJ2 : ∀ (_ : Unit), ref2_inRange_j2 = some r → ∀ fr1 st1, Sub 18 0 [] fr1 st1 [] [] → K2 fr1 st1 := by
  intro _ h fr1 st1 hS
  unfold ref2_inRange_j2 at h
  refine hK2 _ _ (XW.sub hS ?_)
  refine zq fun K14 hK14 => zr (zg [] 1 [2] (zd (hK14 _ _ (ze ?_))))
  obtain rfl := Option.some.inj h
  exact zf [vb true] (.one (.rfl _ rfl))
 refine zq fun K3 hK3 => zr (zv [] 2 [5,6] [] [(5, vl eI p1), (6, vi ((eI.els p1).length : Int))] [] ?_)
 rw [eI.len p1]
 refine zg [] 1 [5,6,7] (zd (hK3 _ _ (zb 0 (XW.rounds' BIG (x := cd Try.f40 [1,0,1,0,0]) (by kernel_rfl) fun Q1 hQ1 => ?_))))
 have hL1 : ∀ (k1 : Nat) (x1 : Int), ref2_inRange_l1 p1 k1 x1 = some r → XR Try.prog 18 0 [] (cd Try.f40 [1,0,1,0,0]) Q1 k1 [(5, vl eI p1), (6, vi (p1.length : Int)), (7, vi x1)] [] := by
  intro k1
  induction k1 with
  | zero => intro x1 h; rw [ref2_inRange_l1.eq_1] at h; cases h
  | succ k1 ih1 =>
   intro x1 h
   rw [ref2_inRange_l1.eq_2] at h
   refine zq fun K4 hK4 => zr (zg [] 1 [5,6,7,8] (zd (hK4 _ _ (zq fun K5 hK5 => zC h (fun b6 h => ?_) (fun b6 h => ?_)))))
   ·refine zs (hK5 _ _ (zq fun K7 hK7 => zb 1 (zq fun K8 hK8 => ?_)))
    obtain ⟨e1, a9, h⟩ := zB h
    refine zr (zo [] 3 [4,5,6,7] [[pi e1]] [0 ≤ x1 ∧ x1 < ((eI.els p1).length : Int) ∧ elemsOk 1 (eI.els p1), (eI.els p1)[x1.toNat]? = some [pi e1]] (⟨eI.inb a9, (eI.get a9), trivial⟩) (zd (hK8 _ _ (zq fun K10 hK10 => ?_))))
    have hJ1 : ∀ (x2 : Bool), ref2_inRange_j1 (ref2_inRange_l1 p1 k1) x1 x2 = some r → ∀ fr1 st1, Sub 18 0 [] fr1 st1 [(5, vl eI p1), (6, vi (p1.length : Int)), (7, vi x1), (16, vb x2)] [] → K10 fr1 st1 := by
     intro x2 h fr1 st1 hS
     unfold ref2_inRange_j1 at h
     refine hK10 _ _ (XW.sub hS ?_)
     refine zC h (fun b12 h => ?_) (fun b12 h => ?_)
     ·refine zq fun K13 hK13 => zr (zg [] 1 [2] (zd (hK13 _ _ (ze (hQ1 _ _ _ ?_)))))
      obtain rfl := Option.some.inj h
      exact zf [vb false] (.one (.rfl _ rfl))
     ·exact zs (hK7 _ _ (zr (zg [] 2 [5,6,7] (zd (XR.sub (zk [5,6,7]) (ih1 (IntKind.i64.wrap (x1 + (1 : Int))) h))))))
    rcases zW h with ⟨b11, h⟩ | ⟨b11, h⟩
    ·exact zr (zv [] 3 [4,5,6,7,13] [] [(4, vi e1), (5, vl eI p1), (6, vi (p1.length : Int)), (7, vi x1), (13, vb (decide (e1 < (-2000000000000000000 : Int))))] [] (zt 13 b11 (zg [] 3 [5,6,7,16] (zd (hJ1 true h _ _ (zk [5,6,7,16]))))))
    ·exact zr (zg [] 3 [4,5,6,7,13] (zt 13 b11 (zv [] 3 [5,6,7,16] [] [(5, vl eI p1), (6, vi (p1.length : Int)), (7, vi x1), (16, vb (decide ((2000000000000000000 : Int) < e1)))] [] (zd (hJ1 (decide ((2000000000000000000 : Int) < e1)) h _ _ (zk [5,6,7,16]))))))
   ·exact zx 0 (hQ1 _ _ _ (hJ2 () h _ _ (zk [])))
 exact XR.sub (zk [5,6,7]) (hL1 BIG (0 : Int) h)

def ref2_number_j1 (l2 : List Int) (x2 : Int) : Option (List Int) :=
    grd (l2.length + 1 ≤ 4294967296) <|
    some (l2 ++ [(IntKind.u8.wrap x2)])

def ref2_number_l1 : Nat → List Int → Int → Option (List Int)
  | 0, _, _ => none
  | k1 + 1, l1, x1 =>
    ift (decide ((128 : Int) ≤ x1))
      (bnd (some (IntKind.u8.wrap ((IntKind.u8.wrap (x1.tmod (128 : Int))) + (128 : Int)))) fun y1 =>
       grd (l1.length + 1 ≤ 4294967296) <|
       (ref2_number_l1 k1) (l1 ++ [y1]) (IntKind.u64.wrap (x1.tdiv (128 : Int))))
      (ref2_number_j1 l1 x1)

def ref2_number (p1 : Int) : Option (List Int) :=
    ref2_number_l1 BIG [] p1


theorem c_ref2_number (p1 : Int) (r : (List Int)) (h : ref2_number p1 = some r) : MX Try.prog 62 [vk .u64 p1] [] [] (.one (.sl 0 1 0 r.length)) [.arr 1 ((eK .u8).els r)] := by
 unfold ref2_number at h
 refine MX.of 0 1 rfl (n := 20) (fn := Try.f62) (c := cd Try.f62 []) (by kernel_rfl) (by kernel_rfl) (by kernel_rfl) (Nat.le_of_ble_eq_true rfl) rfl (zq fun K1 hK1 => zr (zg [] 1 [0] (zd (hK1 _ _ (zq fun K2 hK2 => zr ?_)))))
 refine zg [] 1 [0,3] (zd (hK2 _ _ (zq fun K3 hK3 => ?_)))
 have hJ1 : ∀ (l2 : List Int) (x2 : Int), ref2_number_j1 l2 x2 = some r → ∀ fr1 st1, Sub 20 0 [] fr1 st1 [(0, vk .u64 x2), (3, .one (.sl 0 1 0 l2.length))] [.arr 1 ((eK .u8).els l2)] → K3 fr1 st1 := by
  intro l2 x2 h fr1 st1 hS
  unfold ref2_number_j1 at h
  refine hK3 _ _ (XW.sub hS ?_)
  refine zq fun K10 hK10 => ?_
  obtain ⟨g11, h⟩ := zG h
  refine zr (zp [] 5 [19] [] [(19, .one (.sl 0 1 0 (l2.length + ((eK .u8).els [(IntKind.u8.wrap x2)]).length)))] [.arr 1 ((eK .u8).els l2 ++ (eK .u8).els [(IntKind.u8.wrap x2)])] [elemsOk 1 ((eK .u8).els [(IntKind.u8.wrap x2)]), l2.length = ((eK .u8).els l2).length, l2.length + ((eK .u8).els [(IntKind.u8.wrap x2)]).length ≤ 4294967296] (⟨(eK .u8).ok _, ((eK .u8).len l2).symm, g11, trivial⟩) ?_)
  rw [show l2.length + ((eK .u8).els [(IntKind.u8.wrap x2)]).length = (l2 ++ [(IntKind.u8.wrap x2)]).length from (eK .u8).lapp _ _]
  rw [show (eK .u8).els l2 ++ (eK .u8).els [(IntKind.u8.wrap x2)] = (eK .u8).els (l2 ++ [(IntKind.u8.wrap x2)]) from (eK .u8).app2 _ _]
  refine zv [] 1 [2] [] [(2, .one (.sl 0 1 0 ((l2 ++ [(IntKind.u8.wrap x2)]).length)))] [.arr 1 ((eK .u8).els (l2 ++ [(IntKind.u8.wrap x2)]))] (zd (hK10 _ _ (ze ?_)))
  obtain rfl := Option.some.inj h
  exact FinM.fin (.inr rfl) [] [.one (.sl 0 1 0 ((l2 ++ [(IntKind.u8.wrap x2)]).length))] [] (by kernel_rfl) trivial (by kernel_rfl) (by kernel_rfl) (.one (.rfl _ rfl))
 refine zb 0 (XW.sub (Sub.list (t := 3) (sz := 1) rfl) (XW.rounds' BIG (x := cd Try.f62 [1,1,0,0,0]) (by kernel_rfl) fun Q1 hQ1 => ?_))
 have hL1 : ∀ (k1 : Nat) (l1 : List Int) (x1 : Int), ref2_number_l1 k1 l1 x1 = some r → XR Try.prog 20 0 [] (cd Try.f62 [1,1,0,0,0]) Q1 k1 [(0, vk .u64 x1), (3, .one (.sl 0 1 0 l1.length))] [.arr 1 ((eK .u8).els l1)] := by
  intro k1
  induction k1 with
  | zero => intro l1 x1 h; rw [ref2_number_l1.eq_1] at h; cases h
  | succ k1 ih1 =>
   intro l1 x1 h
   rw [ref2_number_l1.eq_2] at h
   refine zq fun K4 hK4 => zq fun K5 hK5 => zr (zg [] 2 [0,3,5] (zd (hK5 _ _ (zC h (fun b6 h => ?_) (fun b6 h => ?_)))))
   ·refine zs (hK4 _ _ (zb 1 (zq fun K7 hK7 => ?_)))
    obtain ⟨y1, hy8, h⟩ := zB h
    obtain ⟨g9, h⟩ := zG h
    refine zr (zp [] 5 [0,6,10] [] [(0, vk .u64 x1), (6, .one (.sl 0 1 0 l1.length)), (10, vk .u8 (IntKind.u8.wrap ((IntKind.u8.wrap (x1.tmod (128 : Int))) + (128 : Int))))] [.arr 1 ((eK .u8).els l1)] [(128 : Int) ≠ 0] (⟨by decide, trivial⟩) ?_)
    rw [show (IntKind.u8.wrap ((IntKind.u8.wrap (x1.tmod (128 : Int))) + (128 : Int))) = y1 from Option.some.inj hy8]
    refine zp [] 2 [0,12] [] [(0, vk .u64 x1), (12, .one (.sl 0 1 0 (l1.length + ((eK .u8).els [y1]).length)))] [.arr 1 ((eK .u8).els l1 ++ (eK .u8).els [y1])] [elemsOk 1 ((eK .u8).els [y1]), l1.length = ((eK .u8).els l1).length, l1.length + ((eK .u8).els [y1]).length ≤ 4294967296] (⟨(eK .u8).ok _, ((eK .u8).len l1).symm, g9, trivial⟩) ?_
    rw [show l1.length + ((eK .u8).els [y1]).length = (l1 ++ [y1]).length from (eK .u8).lapp _ _]
    rw [show (eK .u8).els l1 ++ (eK .u8).els [y1] = (eK .u8).els (l1 ++ [y1]) from (eK .u8).app2 _ _]
    exact zg [] 1 [0,3] (zd (hK7 _ _ (zr (zo [] 3 [0,3] [] [(128 : Int) ≠ 0] (⟨by decide, trivial⟩) (zd (XR.sub (zk [0,3]) (ih1 (l1 ++ [y1]) (IntKind.u64.wrap (x1.tdiv (128 : Int))) h)))))))
   ·exact zx 0 (hQ1 _ _ _ (hJ1 l1 x1 h _ _ (zk [0,3])))
 exact XR.sub (zk [0,3]) (hL1 BIG [] p1 h)

def ref2_signed (p1 : Int) : Option (List Int) :=
    ift (decide (p1 < (0 : Int)))
      (bnd (some (IntKind.u64.wrap (IntKind.i64.wrap ((IntKind.i64.wrap ((-2 : Int) * p1)) - (1 : Int))))) fun y1 =>
       bnd (ref2_number y1) fun r1 =>
       some r1)
      (bnd (ref2_number (IntKind.u64.wrap (IntKind.i64.wrap ((2 : Int) * p1)))) fun r2 =>
       some r2)


theorem c_ref2_signed (p1 : Int) (r : (List Int)) (h : ref2_signed p1 = some r) : MX Try.prog 61 [vi p1] [] [] (.one (.sl 0 1 0 r.length)) [.arr 1 ((eK .u8).els r)] := by
 unfold ref2_signed at h
 refine MX.of 0 1 rfl (n := 14) (fn := Try.f61) (c := cd Try.f61 []) (by kernel_rfl) (by kernel_rfl) (by kernel_rfl) (Nat.le_of_ble_eq_true rfl) rfl (zq fun K1 hK1 => zr (zg [] 1 [0] (zd (hK1 _ _ (zq fun K2 hK2 => zq fun K3 hK3 => ?_)))))
 refine zr (zg [] 2 [0,4] (zd (hK3 _ _ (zC h (fun b4 h => ?_) (fun b4 h => ?_)))))
 ·refine zq fun K5 hK5 => ?_
  obtain ⟨y1, hy6, h⟩ := zB h
  obtain ⟨r1, c7, h⟩ := zB h
  refine zr (zv [] 4 [8] [] [(8, vk .u64 (IntKind.u64.wrap (IntKind.i64.wrap ((IntKind.i64.wrap ((-2 : Int) * p1)) - (1 : Int)))))] [] ?_)
  rw [show (IntKind.u64.wrap (IntKind.i64.wrap ((IntKind.i64.wrap ((-2 : Int) * p1)) - (1 : Int)))) = y1 from Option.some.inj hy6]
  refine XO.calx 62 [vk .u64 y1] [] [.arr 1 ((eK .u8).els r1)] [] (.one (.sl 0 1 0 r1.length)) [] [] [(9, .one (.sl 0 1 0 r1.length)), (8, vk .u64 y1)] [.arr 1 ((eK .u8).els r1)] (by kernel_rfl) (c_ref2_number _ _ c7) (by kernel_rfl) (by kernel_rfl) (by kernel_rfl) (by kernel_rfl) (by kernel_rfl) (by kernel_rfl) (by kernel_rfl) (zv [] 1 [2] [] [(2, .one (.sl 0 1 0 r1.length))] [.arr 1 ((eK .u8).els r1)] (zd (hK5 _ _ (ze ?_))))
  obtain rfl := Option.some.inj h
  exact FinM.fin (.inr rfl) [] [.one (.sl 0 1 0 r1.length)] [] (by kernel_rfl) trivial (by kernel_rfl) (by kernel_rfl) (.one (.rfl _ rfl))
 ·refine zs (hK2 _ _ (zq fun K8 hK8 => ?_))
  obtain ⟨r2, c9, h⟩ := zB h
  refine zr (zv [] 3 [12] [] [(12, vk .u64 (IntKind.u64.wrap (IntKind.i64.wrap ((2 : Int) * p1))))] [] (XO.calx 62 [vk .u64 (IntKind.u64.wrap (IntKind.i64.wrap ((2 : Int) * p1)))] [] [.arr 1 ((eK .u8).els r2)] [] (.one (.sl 0 1 0 r2.length)) [] [] [(13, .one (.sl 0 1 0 r2.length)), (12, vk .u64 (IntKind.u64.wrap (IntKind.i64.wrap ((2 : Int) * p1))))] [.arr 1 ((eK .u8).els r2)] (by kernel_rfl) (c_ref2_number _ _ c9) (by kernel_rfl) (by kernel_rfl) (by kernel_rfl) (by kernel_rfl) (by kernel_rfl) (by kernel_rfl) (by kernel_rfl) ?_))
  refine zv [] 1 [2] [] [(2, .one (.sl 0 1 0 r2.length))] [.arr 1 ((eK .u8).els r2)] (zd (hK8 _ _ (ze ?_)))
  obtain rfl := Option.some.inj h
  exact FinM.fin (.inr rfl) [] [.one (.sl 0 1 0 r2.length)] [] (by kernel_rfl) trivial (by kernel_rfl) (by kernel_rfl) (.one (.rfl _ rfl))

def ref2_fits_j1 (rec1 : Int → Option Bool) (x1 : Int) (x2 : Bool) : Option Bool :=
    ift x2
      (some false)
      (rec1 (IntKind.i64.wrap (x1 + (1 : Int))))

def ref2_fits_j2 : Option Bool :=
    some true

def ref2_fits_l1 (p1 : Int) (p2 : (List Int)) : Nat → Int → Option Bool
  | 0, _ => none
  | k1 + 1, x1 =>
    ift (decide (x1 < (p2.length : Int)))
      (bnd (at? p2 x1) fun e1 =>
       ift (decide (e1 < (0 : Int)))
         (ref2_fits_j1 (ref2_fits_l1 p1 p2 k1) x1 true)
         (grd (0 ≤ p1) <|
          bnd (some (IntKind.i64.wrap ((1 : Int) * 2 ^ (min p1.toNat (IntKind.i64).bits)))) fun y1 =>
          ref2_fits_j1 (ref2_fits_l1 p1 p2 k1) x1 (decide (y1 ≤ e1))))
      (ref2_fits_j2)

def ref2_fits (p1 : Int) (p2 : (List Int)) : Option Bool :=
    ref2_fits_l1 p1 p2 BIG (0 : Int)


theorem c_ref2_fits (p1 : Int) (p2 : (List Int)) (r : Bool) (h : ref2_fits p1 p2 = some r) : PC Try.prog 88 [vi p1, vl eI p2] (vb r) := by
 unfold ref2_fits at h
 refine zF 22 Try.f88 (zq fun K1 hK1 => zr (zg [] 1 [0,1] (zd (hK1 _ _ (zq fun K2 hK2 => ?_)))))
 have hJ2 : ∀ (_ : Unit), ref2_fits_j2 = some r → ∀ fr1 st1, Sub 22 0 [] fr1 st1 [] [] → K2 fr1 st1 := by
  intro _ h fr1 st1 hS
  unfold ref2_fits_j2 at h
  refine hK2 _ _ (XW.sub hS ?_)
  refine zq fun K16 hK16 => zr (zg [] 1 [4] (zd (hK16 _ _ (ze ?_))))
  obtain rfl := Option.some.inj h
  exact zf [vb true] (.one (.rfl _ rfl))
 refine zq fun K3 hK3 => zr (zv [] 2 [0,7,8] [] [(0, vi p1), (7, vl eI p2), (8, vi ((eI.els p2).length : Int))] [] ?_)
 rw [eI.len p2]
 refine zg [] 1 [0,7,8,9] (zd (hK3 _ _ (zb 0 (XW.rounds' BIG (x := cd Try.f88 [1,0,1,0,0]) (by kernel_rfl) fun Q1 hQ1 => ?_))))
 have hL1 : ∀ (k1 : Nat) (x1 : Int), ref2_fits_l1 p1 p2 k1 x1 = some r → XR Try.prog 22 0 [] (cd Try.f88 [1,0,1,0,0]) Q1 k1 [(0, vi p1), (7, vl eI p2), (8, vi (p2.length : Int)), (9, vi x1)] [] := by
  intro k1
  induction k1 with
  | zero => intro x1 h; rw [ref2_fits_l1.eq_1] at h; cases h
  | succ k1 ih1 =>
   intro x1 h
   rw [ref2_fits_l1.eq_2] at h
   refine zq fun K4 hK4 => zr (zg [] 1 [0,7,8,9,10] (zd (hK4 _ _ (zq fun K5 hK5 => zC h (fun b6 h => ?_) (fun b6 h => ?_)))))
   ·refine zs (hK5 _ _ (zq fun K7 hK7 => zb 1 (zq fun K8 hK8 => ?_)))
    obtain ⟨e1, a9, h⟩ := zB h
    refine zr (zo [] 3 [0,6,7,8,9] [[pi e1]] [0 ≤ x1 ∧ x1 < ((eI.els p2).length : Int) ∧ elemsOk 1 (eI.els p2), (eI.els p2)[x1.toNat]? = some [pi e1]] (⟨eI.inb a9, (eI.get a9), trivial⟩) (zd (hK8 _ _ (zq fun K10 hK10 => ?_))))
    have hJ1 : ∀ (x2 : Bool), ref2_fits_j1 (ref2_fits_l1 p1 p2 k1) x1 x2 = some r → ∀ fr1 st1, Sub 22 0 [] fr1 st1 [(0, vi p1), (7, vl eI p2), (8, vi (p2.length : Int)), (9, vi x1), (20, vb x2)] [] → K10 fr1 st1 := by
     intro x2 h fr1 st1 hS
     unfold ref2_fits_j1 at h
     refine hK10 _ _ (XW.sub hS ?_)
     refine zC h (fun b14 h => ?_) (fun b14 h => ?_)
     ·refine zq fun K15 hK15 => zr (zg [] 1 [4] (zd (hK15 _ _ (ze (hQ1 _ _ _ ?_)))))
      obtain rfl := Option.some.inj h
      exact zf [vb false] (.one (.rfl _ rfl))
     ·exact zs (hK7 _ _ (zr (zg [] 2 [0,7,8,9] (zd (XR.sub (zk [0,7,8,9]) (ih1 (IntKind.i64.wrap (x1 + (1 : Int))) h))))))
    rcases zW h with ⟨b11, h⟩ | ⟨b11, h⟩
    ·exact zr (zv [] 3 [0,6,7,8,9,15] [] [(0, vi p1), (6, vi e1), (7, vl eI p2), (8, vi (p2.length : Int)), (9, vi x1), (15, vb (decide (e1 < (0 : Int))))] [] (zt 15 b11 (zg [] 5 [0,7,8,9,20] (zd (hJ1 true h _ _ (zk [0,7,8,9,20]))))))
    ·obtain ⟨g12, h⟩ := zG h
     obtain ⟨y1, hy13, h⟩ := zB h
     refine zr (zg [] 3 [0,6,7,8,9,15] (zt 15 b11 (zp [] 3 [0,7,8,9,15,16,18] [] [(0, vi p1), (7, vl eI p2), (8, vi (p2.length : Int)), (9, vi x1), (15, vb false), (16, vi e1), (18, vi (IntKind.i64.wrap ((1 : Int) * 2 ^ (min p1.toNat (IntKind.i64).bits))))] [] [0 ≤ p1] (⟨g12, trivial⟩) ?_)))
     rw [show (IntKind.i64.wrap ((1 : Int) * 2 ^ (min p1.toNat (IntKind.i64).bits))) = y1 from Option.some.inj hy13]
     exact zg [] 2 [0,7,8,9,20] (zd (hJ1 (decide (y1 ≤ e1)) h _ _ (zk [0,7,8,9,20])))
   ·exact zx 0 (hQ1 _ _ _ (hJ2 () h _ _ (zk [])))
 exact XR.sub (zk [0,7,8,9]) (hL1 BIG (0 : Int) h)

def ref2_bits_j1 (rec1 : List Bool → Int → Option (List Bool)) (x1 : Int) (l3 : List Bool) : Option (List Bool) :=
    rec1 l3 (IntKind.i64.wrap (x1 + (1 : Int)))

def ref2_bits_l2 (rec1 : List Bool → Int → Option (List Bool)) (p1 : Int) (x1 : Int) : Nat → List Bool → Int → Int → Option (List Bool)
  | 0, _, _, _ => none
  | k2 + 1, l2, x2, x3 =>
    ift (decide (x3 < p1))
      (grd (l2.length + 1 ≤ 4294967296) <|
       (ref2_bits_l2 rec1 p1 x1 k2) (l2 ++ [((x2.tmod (2 : Int)) == (1 : Int))]) (IntKind.i64.wrap (x2.tdiv (2 : Int))) (IntKind.i64.wrap (x3 + (1 : Int))))
      (ref2_bits_j1 rec1 x1 l2)

def ref2_bits_j2 (l4 : List Bool) : Option (List Bool) :=
    some l4

def ref2_bits_l1 (p1 : Int) (p2 : (List Int)) : Nat → List Bool → Int → Option (List Bool)
  | 0, _, _ => none
  | k1 + 1, l1, x1 =>
    ift (decide (x1 < (p2.length : Int)))
      (bnd (at? p2 x1) fun e1 =>
       ref2_bits_l2 (ref2_bits_l1 p1 p2 k1) p1 x1 BIG l1 e1 (0 : Int))
      (ref2_bits_j2 l1)

def ref2_bits (p1 : Int) (p2 : (List Int)) : Option (List Bool) :=
    ref2_bits_l1 p1 p2 BIG [] (0 : Int)


theorem c_ref2_bits (p1 : Int) (p2 : (List Int)) (r : (List Bool)) (h : ref2_bits p1 p2 = some r) : PC Try.prog 115 [vi p1, vl eI p2] (vl eB r) := by
 unfold ref2_bits at h
 refine zF 30 Try.f115 (zq fun K1 hK1 => zr (zg [] 1 [0,1] (zd (hK1 _ _ (zq fun K2 hK2 => zr ?_)))))
 refine zg [] 1 [0,1,5] (zd (hK2 _ _ (zq fun K3 hK3 => ?_)))
 have hJ2 : ∀ (l4 : List Bool), ref2_bits_j2 l4 = some r → ∀ fr1 st1, Sub 30 0 [] fr1 st1 [(5, .one (.sl 0 1 0 l4.length))] [.arr 1 (eB.els l4)] → K3 fr1 st1 := by
  intro l4 h fr1 st1 hS
  unfold ref2_bits_j2 at h
  refine hK3 _ _ (XW.sub hS ?_)
  refine zq fun K18 hK18 => zr (zg [] 2 [4] (zd (hK18 _ _ (ze ?_))))
  obtain rfl := Option.some.inj h
  exact zf [.one (.sl 0 1 0 l4.length)] (.one (cf_sl eB l4 rfl rfl rfl))
 refine zq fun K4 hK4 => zr (zv [] 2 [0,5,9,10] [] [(0, vi p1), (5, .one (.pv (.s (.slice none 0 0)))), (9, vl eI p2), (10, vi ((eI.els p2).length : Int))] [] ?_)
 rw [eI.len p2]
 refine zv [] 1 [0,5,9,10,11] [] [(0, vi p1), (5, .one (.pv (.s (.slice none 0 0)))), (9, vl eI p2), (10, vi (p2.length : Int)), (11, vi (0 : Int))] [] (zd (hK4 _ _ (zb 0 (XW.sub (Sub.list (t := 5) (sz := 1) rfl) (XW.rounds' BIG (x := cd Try.f115 [1,1,0,1,0,0]) (by kernel_rfl) fun Q1 hQ1 => ?_)))))
 have hL1 : ∀ (k1 : Nat) (l1 : List Bool) (x1 : Int), ref2_bits_l1 p1 p2 k1 l1 x1 = some r → XR Try.prog 30 0 [] (cd Try.f115 [1,1,0,1,0,0]) Q1 k1 [(0, vi p1), (5, .one (.sl 0 1 0 l1.length)), (9, vl eI p2), (10, vi (p2.length : Int)), (11, vi x1)] [.arr 1 (eB.els l1)] := by
  intro k1
  induction k1 with
  | zero => intro l1 x1 h; rw [ref2_bits_l1.eq_1] at h; cases h
  | succ k1 ih1 =>
   intro l1 x1 h
   rw [ref2_bits_l1.eq_2] at h
   refine zq fun K5 hK5 => zr (zg [] 1 [0,5,9,10,11,12] (zd (hK5 _ _ (zq fun K6 hK6 => zC h (fun b7 h => ?_) (fun b7 h => ?_)))))
   ·refine zs (hK6 _ _ (zq fun K8 hK8 => ?_))
    have hJ1 : ∀ (l3 : List Bool), ref2_bits_j1 (ref2_bits_l1 p1 p2 k1) x1 l3 = some r → ∀ fr1 st1, Sub 30 0 [] fr1 st1 [(0, vi p1), (5, .one (.sl 0 1 0 l3.length)), (9, vl eI p2), (10, vi (p2.length : Int)), (11, vi x1)] [.arr 1 (eB.els l3)] → K8 fr1 st1 := by
     intro l3 h fr1 st1 hS
     unfold ref2_bits_j1 at h
     refine hK8 _ _ (XW.sub hS ?_)
     exact zr (zg [] 2 [0,5,9,10,11] (zd (XR.sub (zk [0,5,9,10,11]) (ih1 l3 (IntKind.i64.wrap (x1 + (1 : Int))) h))))
    refine zb 1 (zq fun K9 hK9 => ?_)
    obtain ⟨e1, a10, h⟩ := zB h
    refine zr (zo [] 3 [0,5,7,9,10,11] [[pi e1]] [0 ≤ x1 ∧ x1 < ((eI.els p2).length : Int) ∧ elemsOk 1 (eI.els p2), (eI.els p2)[x1.toNat]? = some [pi e1]] (⟨eI.inb a10, (eI.get a10), trivial⟩) (zd (hK9 _ _ (zq fun K11 hK11 => zr (zv [] 1 [0,5,7,8,9,10,11] [] [(0, vi p1), (5, .one (.sl 0 1 0 l1.length)), (7, vi e1), (8, vi (0 : Int)), (9, vl eI p2), (10, vi (p2.length : Int)), (11, vi x1)] [.arr 1 (eB.els l1)] (zd ?_))))))
    refine hK11 _ _ (zb 2 (XW.rounds' BIG (x := cd Try.f115 [1,1,0,1,0,0,1,1,0,0,1,1,0,0]) (by kernel_rfl) fun Q2 hQ2 => ?_))
    have hL2 : ∀ (k2 : Nat) (l2 : List Bool) (x2 : Int) (x3 : Int), ref2_bits_l2 (ref2_bits_l1 p1 p2 k1) p1 x1 k2 l2 x2 x3 = some r → XR Try.prog 30 0 [] (cd Try.f115 [1,1,0,1,0,0,1,1,0,0,1,1,0,0]) Q2 k2 [(0, vi p1), (5, .one (.sl 0 1 0 l2.length)), (7, vi x2), (8, vi x3), (9, vl eI p2), (10, vi (p2.length : Int)), (11, vi x1)] [.arr 1 (eB.els l2)] := by
     intro k2
     induction k2 with
     | zero => intro l2 x2 x3 h; rw [ref2_bits_l2.eq_1] at h; cases h
     | succ k2 ih2 =>
      intro l2 x2 x3 h
      rw [ref2_bits_l2.eq_2] at h
      refine zq fun K12 hK12 => zq fun K13 hK13 => zr (zg [] 3 [0,5,7,8,9,10,11,17] (zd (hK13 _ _ (zC h (fun b14 h => ?_) (fun b14 h => ?_)))))
      ·refine zs (hK12 _ _ (zq fun K15 hK15 => zb 3 (zq fun K16 hK16 => ?_)))
       obtain ⟨g17, h⟩ := zG h
       refine zr (zp [] 6 [0,7,8,9,10,11,25] [] [(0, vi p1), (7, vi x2), (8, vi x3), (9, vl eI p2), (10, vi (p2.length : Int)), (11, vi x1), (25, .one (.sl 0 1 0 (l2.length + (eB.els [((x2.tmod (2 : Int)) == (1 : Int))]).length)))] [.arr 1 (eB.els l2 ++ eB.els [((x2.tmod (2 : Int)) == (1 : Int))])] [(2 : Int) ≠ 0, elemsOk 1 (eB.els [((x2.tmod (2 : Int)) == (1 : Int))]), l2.length = (eB.els l2).length, l2.length + (eB.els [((x2.tmod (2 : Int)) == (1 : Int))]).length ≤ 4294967296] (⟨by decide, eB.ok _, (eB.len l2).symm, g17, trivial⟩) ?_)
       rw [show l2.length + (eB.els [((x2.tmod (2 : Int)) == (1 : Int))]).length = (l2 ++ [((x2.tmod (2 : Int)) == (1 : Int))]).length from eB.lapp _ _]
       rw [show eB.els l2 ++ eB.els [((x2.tmod (2 : Int)) == (1 : Int))] = eB.els (l2 ++ [((x2.tmod (2 : Int)) == (1 : Int))]) from eB.app2 _ _]
       refine zg [] 1 [0,5,7,8,9,10,11] (zd (hK16 _ _ (zr (zo [] 3 [0,5,7,8,9,10,11] [] [(2 : Int) ≠ 0] (⟨by decide, trivial⟩) (zd (hK15 _ _ (zr ?_)))))))
       exact zv [] 3 [0,5,7,8,9,10,11] [] [(0, vi p1), (5, .one (.sl 0 1 0 ((l2 ++ [((x2.tmod (2 : Int)) == (1 : Int))]).length))), (7, vi (IntKind.i64.wrap (x2.tdiv (2 : Int)))), (8, vi (IntKind.i64.wrap (x3 + (1 : Int)))), (9, vl eI p2), (10, vi (p2.length : Int)), (11, vi x1)] [.arr 1 (eB.els (l2 ++ [((x2.tmod (2 : Int)) == (1 : Int))]))] (zd (XR.sub (zk [0,5,7,8,9,10,11]) (ih2 (l2 ++ [((x2.tmod (2 : Int)) == (1 : Int))]) (IntKind.i64.wrap (x2.tdiv (2 : Int))) (IntKind.i64.wrap (x3 + (1 : Int))) h)))
      ·exact zx 2 (hQ2 _ _ _ (hJ1 l2 h _ _ (zk [0,5,9,10,11])))
    exact XR.sub (zk [0,5,7,8,9,10,11]) (hL2 BIG l1 e1 (0 : Int) h)
   ·exact zx 0 (hQ1 _ _ _ (hJ2 l1 h _ _ (zk [5])))
 exact XR.sub (zk [0,5,9,10,11]) (hL1 BIG [] (0 : Int) h)

def ref2_pack_j1 (rec1 : List Int → Int → Option (List Int)) (x1 : Int) (l2 : List Int) : Option (List Int) :=
    rec1 l2 (IntKind.i64.wrap (x1 + (1 : Int)))

def ref2_pack_j2 (l3 : List Int) : Option (List Int) :=
    some l3

def ref2_pack_l1 (r1 : (List Bool)) : Nat → List Int → Int → Option (List Int)
  | 0, _, _ => none
  | k1 + 1, l1, x1 =>
    ift (decide (x1 < (r1.length : Int)))
      (bnd (at? r1 x1) fun e1 =>
       ift e1
         (bnd (at? l1 (IntKind.i64.wrap (x1.tdiv (8 : Int)))) fun e2 =>
          grd (0 ≤ (x1.tmod (8 : Int))) <|
          bnd (some (IntKind.u8.wrap ((1 : Int) * 2 ^ (min (x1.tmod (8 : Int)).toNat (IntKind.u8).bits)))) fun y2 =>
          ref2_pack_j1 (ref2_pack_l1 r1 k1) x1 (l1.set (IntKind.i64.wrap (x1.tdiv (8 : Int))).toNat (IntKind.u8.wrap (e2 + y2))))
         (ref2_pack_j1 (ref2_pack_l1 r1 k1) x1 l1))
      (ref2_pack_j2 l1)

def ref2_pack (p1 : Int) (p2 : (List Int)) : Option (List Int) :=
    bnd (ref2_bits p1 p2) fun r1 =>
    bnd (some (IntKind.i64.wrap ((IntKind.i64.wrap ((r1.length : Int) + (7 : Int))).tdiv (8 : Int)))) fun y1 =>
    grd (0 ≤ y1 ∧ y1 ≤ y1 ∧ y1 ≤ 4294967296) <|
    ref2_pack_l1 r1 BIG (List.replicate y1.toNat (0 : Int)) (0 : Int)


theorem c_ref2_pack (p1 : Int) (p2 : (List Int)) (r : (List Int)) (h : ref2_pack p1 p2 = some r) : PC Try.prog 89 [vi p1, vl eI p2] (vl (eK .u8) r) := by
 unfold ref2_pack at h
 refine zF 37 Try.f89 (zq fun K1 hK1 => zr (zg [] 1 [0,1] (zd (hK1 _ _ (zq fun K2 hK2 => ?_)))))
 obtain ⟨r1, c3, h⟩ := zB h
 refine zr (zg [] 2 [8,9] (zl 115 [vi p1, vl eI p2] (vl eB r1) [(10, vl eB r1), (8, vi p1), (9, vl eI p2)] (c_ref2_bits _ _ _ c3) (zg [] 1 [5] (zd (hK2 _ _ (zq fun K4 hK4 => ?_))))))
 obtain ⟨y1, hy5, h⟩ := zB h
 obtain ⟨g7, h⟩ := zG h
 refine zr (zv [] 2 [5,12] [] [(5, vl eB r1), (12, vi ((eB.els r1).length : Int))] [] ?_)
 rw [eB.len r1]
 refine zp [] 2 [5,14] [] [(5, vl eB r1), (14, vi (IntKind.i64.wrap ((IntKind.i64.wrap ((r1.length : Int) + (7 : Int))).tdiv (8 : Int))))] [] [(8 : Int) ≠ 0] (⟨by decide, trivial⟩) ?_
 rw [show (IntKind.i64.wrap ((IntKind.i64.wrap ((r1.length : Int) + (7 : Int))).tdiv (8 : Int))) = y1 from Option.some.inj hy5]
 refine zp [] 1 [5,15] [] [(5, vl eB r1), (15, .one (.sl 0 1 0 y1.toNat))] [.arr 1 (List.replicate y1.toNat [.s (.int .u8 (0 : Int))])] [0 ≤ y1, y1 ≤ y1, y1 ≤ 4294967296] (⟨g7.1, g7.2.1, g7.2.2, trivial⟩) ?_
 rw [show List.replicate y1.toNat [.s (.int .u8 (0 : Int))] = (eK .u8).els (List.replicate y1.toNat (0 : Int)) from (eK .u8).rep _ (0 : Int)]
 refine zg [] 1 [5,6] (zd (hK4 _ _ (zq fun K8 hK8 => ?_)))
 have hJ2 : ∀ (l3 : List Int), ref2_pack_j2 l3 = some r → ∀ fr1 st1, Sub 37 0 [] fr1 st1 [(6, .one (.sl 0 1 0 l3.length))] [.arr 1 ((eK .u8).els l3)] → K8 fr1 st1 := by
  intro l3 h fr1 st1 hS
  unfold ref2_pack_j2 at h
  refine hK8 _ _ (XW.sub hS ?_)
  refine zq fun K21 hK21 => zr (zg [] 2 [4] (zd (hK21 _ _ (ze ?_))))
  obtain rfl := Option.some.inj h
  exact zf [.one (.sl 0 1 0 l3.length)] (.one (cf_sl (eK .u8) l3 rfl rfl rfl))
 refine zq fun K9 hK9 => zr (zv [] 2 [5,6,17] [] [(5, vl eB r1), (6, .one (.sl 0 1 0 y1.toNat)), (17, vi ((eB.els r1).length : Int))] [.arr 1 ((eK .u8).els (List.replicate y1.toNat (0 : Int)))] ?_)
 rw [eB.len r1]
 refine zg [] 1 [5,6,17,18] (zd (hK9 _ _ (zb 0 (XW.rounds' BIG (x := cd Try.f89 [1,1,1,0,1,0,0]) (by kernel_rfl) fun Q1 hQ1 => ?_))))
 have hL1 : ∀ (k1 : Nat) (l1 : List Int) (x1 : Int), ref2_pack_l1 r1 k1 l1 x1 = some r → XR Try.prog 37 0 [] (cd Try.f89 [1,1,1,0,1,0,0]) Q1 k1 [(5, vl eB r1), (6, .one (.sl 0 1 0 l1.length)), (17, vi (r1.length : Int)), (18, vi x1)] [.arr 1 ((eK .u8).els l1)] := by
  intro k1
  induction k1 with
  | zero => intro l1 x1 h; rw [ref2_pack_l1.eq_1] at h; cases h
  | succ k1 ih1 =>
   intro l1 x1 h
   rw [ref2_pack_l1.eq_2] at h
   refine zq fun K10 hK10 => zr (zg [] 1 [5,6,17,18,19] (zd (hK10 _ _ (zq fun K11 hK11 => zC h (fun b12 h => ?_) (fun b12 h => ?_)))))
   ·refine zs (hK11 _ _ (zq fun K13 hK13 => ?_))
    have hJ1 : ∀ (l2 : List Int), ref2_pack_j1 (ref2_pack_l1 r1 k1) x1 l2 = some r → ∀ fr1 st1, Sub 37 0 [] fr1 st1 [(5, vl eB r1), (6, .one (.sl 0 1 0 l2.length)), (17, vi (r1.length : Int)), (18, vi x1)] [.arr 1 ((eK .u8).els l2)] → K13 fr1 st1 := by
     intro l2 h fr1 st1 hS
     unfold ref2_pack_j1 at h
     refine hK13 _ _ (XW.sub hS ?_)
     exact zr (zg [] 2 [5,6,17,18] (zd (XR.sub (zk [5,6,17,18]) (ih1 l2 (IntKind.i64.wrap (x1 + (1 : Int))) h))))
    refine zb 1 (zq fun K14 hK14 => zr (zg [] 2 [5,6,7,17,18] (zd (hK14 _ _ (zq fun K15 hK15 => ?_)))))
    obtain ⟨e1, a16, h⟩ := zB h
    refine zr (zp [] 4 [5,6,7,17,18,24] [[.s (.bool e1)]] [(5, vl eB r1), (6, .one (.sl 0 1 0 l1.length)), (7, vi x1), (17, vi (r1.length : Int)), (18, vi x1), (24, vb e1)] [.arr 1 ((eK .u8).els l1)] [0 ≤ x1 ∧ x1 < ((eB.els r1).length : Int) ∧ elemsOk 1 (eB.els r1), (eB.els r1)[x1.toNat]? = some [.s (.bool e1)]] (⟨eB.inb a16, (eB.get a16), trivial⟩) (zd (hK15 _ _ (zC h (fun b17 h => ?_) (fun b17 h => ?_)))))
    ·obtain ⟨e2, a18, h⟩ := zB h
     obtain ⟨g19, h⟩ := zG h
     obtain ⟨y2, hy20, h⟩ := zB h
     refine zw 8 [(32, vk .u8 y2), (31, vi (x1.tmod (8 : Int))), (30, vi x1), (29, vk .u8 e2), (28, .one (.pt 0 1 (0 + (IntKind.i64.wrap (x1.tdiv (8 : Int))).toNat) 0)), (27, vi (IntKind.i64.wrap (x1.tdiv (8 : Int)))), (26, vi x1), (25, .one (.sl 0 1 0 l1.length)), (5, vl eB r1), (6, .one (.sl 0 1 0 l1.length)), (7, vi x1), (17, vi (r1.length : Int)), (18, vi x1), (24, vb e1)] ?_ ?_
     ·refine zyp 8 [[.s (.int .u8 e2)]] [(32, vk .u8 (IntKind.u8.wrap ((1 : Int) * 2 ^ (min (x1.tmod (8 : Int)).toNat (IntKind.u8).bits)))), (31, vi (x1.tmod (8 : Int))), (30, vi x1), (29, vk .u8 e2), (28, .one (.pt 0 1 (0 + (IntKind.i64.wrap (x1.tdiv (8 : Int))).toNat) 0)), (27, vi (IntKind.i64.wrap (x1.tdiv (8 : Int)))), (26, vi x1), (25, .one (.sl 0 1 0 l1.length)), (5, vl eB r1), (6, .one (.sl 0 1 0 l1.length)), (7, vi x1), (17, vi (r1.length : Int)), (18, vi x1), (24, vb e1)] [(8 : Int) ≠ 0, 0 ≤ (IntKind.i64.wrap (x1.tdiv (8 : Int))) ∧ (IntKind.i64.wrap (x1.tdiv (8 : Int))) < ((l1.length : Nat) : Int), ((eK .u8).els l1)[(0 + (IntKind.i64.wrap (x1.tdiv (8 : Int))).toNat)]? = some [.s (.int .u8 e2)], (8 : Int) ≠ 0, 0 ≤ (x1.tmod (8 : Int))] (⟨by decide, Enc.inb' a18, ((eK .u8).get0 a18), by decide, g19, trivial⟩) ?_
      rw [show (IntKind.u8.wrap ((1 : Int) * 2 ^ (min (x1.tmod (8 : Int)).toNat (IntKind.u8).bits))) = y2 from Option.some.inj hy20]
      exact zyd
     refine zp [] 3 [5,6,17,18] [[.s (.int .u8 e2)]] [(5, vl eB r1), (6, .one (.sl 0 1 0 l1.length)), (17, vi (r1.length : Int)), (18, vi x1)] [.arr 1 (((eK .u8).els l1).set (0 + (IntKind.i64.wrap (x1.tdiv (8 : Int))).toNat) [.s (.int .u8 (IntKind.u8.wrap (e2 + y2)))])] [0 ≤ (IntKind.i64.wrap (x1.tdiv (8 : Int))) ∧ (IntKind.i64.wrap (x1.tdiv (8 : Int))) < ((l1.length : Nat) : Int), ((eK .u8).els l1)[(0 + (IntKind.i64.wrap (x1.tdiv (8 : Int))).toNat)]? = some [.s (.int .u8 e2)]] (⟨Enc.inb' a18, ((eK .u8).get0 a18), trivial⟩) ?_
     rw [show ((eK .u8).els l1).set (0 + (IntKind.i64.wrap (x1.tdiv (8 : Int))).toNat) [.s (.int .u8 (IntKind.u8.wrap (e2 + y2)))] = (eK .u8).els (l1.set (IntKind.i64.wrap (x1.tdiv (8 : Int))).toNat (IntKind.u8.wrap (e2 + y2))) from (eK .u8).set0 _ _ (IntKind.u8.wrap (e2 + y2))]
     refine zd ?_
     exact hJ1 (l1.set (IntKind.i64.wrap (x1.tdiv (8 : Int))).toNat (IntKind.u8.wrap (e2 + y2))) h _ _ (Sub.trans (Sub.pick (fr' := [(5, vl eB r1), (6, .one (.sl 0 1 0 l1.length)), (17, vi (r1.length : Int)), (18, vi x1)]) [5,6,17,18] (by kernel_rfl)) (Sub.frame (fr' := [(5, vl eB r1), (6, .one (.sl 0 1 0 (l1.set (IntKind.i64.wrap (x1.tdiv (8 : Int))).toNat (IntKind.u8.wrap (e2 + y2))).length)), (17, vi (r1.length : Int)), (18, vi x1)]) ⟨.rfl _, ALe.of_eq (show (.one (.sl 0 1 0 l1.length) : AV) = .one (.sl 0 1 0 (l1.set (IntKind.i64.wrap (x1.tdiv (8 : Int))).toNat (IntKind.u8.wrap (e2 + y2))).length) from by simp), .rfl _, .rfl _, trivial⟩))
    ·exact zs (hJ1 l1 h _ _ (zk [5,6,17,18]))
   ·exact zx 0 (hQ1 _ _ _ (hJ2 l1 h _ _ (zk [6])))
 exact XR.sub (Sub.trans (Sub.pick (fr' := [(5, vl eB r1), (6, .one (.sl 0 1 0 y1.toNat)), (17, vi (r1.length : Int)), (18, vi (0 : Int))]) [5,6,17,18] (by kernel_rfl)) (Sub.frame (fr' := [(5, vl eB r1), (6, .one (.sl 0 1 0 (List.replicate y1.toNat (0 : Int)).length)), (17, vi (r1.length : Int)), (18, vi (0 : Int))]) ⟨.rfl _, ALe.of_eq (show (.one (.sl 0 1 0 y1.toNat) : AV) = .one (.sl 0 1 0 (List.replicate y1.toNat (0 : Int)).length) from by simp), .rfl _, .rfl _, trivial⟩)) (hL1 BIG (List.replicate y1.toNat (0 : Int)) (0 : Int) h)

def ref2_frame_j1 (rec1 : Int → Int → Option (List Int)) (x2 : Int) (x3 : Int) : Option (List Int) :=
    rec1 x3 (IntKind.i64.wrap (x2 + (1 : Int)))

def ref2_frame_j4 (x4 : Int) (l2 : List Int) (x7 : Int) : Option (List Int) :=
    bnd (ref2_signed x4) fun r2 =>
    grd (r2.length + 1 ≤ 4294967296) <|
    bnd (ref2_pack x7 l2) fun r3 =>
    grd ((r2 ++ [(IntKind.u8.wrap x7)]).length + r3.length ≤ 4294967296) <|
    some ((r2 ++ [(IntKind.u8.wrap x7)]) ++ r3)

def ref2_frame_l3 (x4 : Int) (l2 : List Int) : Nat → Int → Option (List Int)
  | 0, _ => none
  | k3 + 1, x6 =>
    bnd (ref2_fits x6 l2) fun r1 =>
    ift (!r1)
      ((ref2_frame_l3 x4 l2 k3) (IntKind.i64.wrap (x6 + (1 : Int))))
      (ref2_frame_j4 x4 l2 x6)

def ref2_frame_j3 (x4 : Int) (l2 : List Int) : Option (List Int) :=
    ref2_frame_l3 x4 l2 BIG (0 : Int)

def ref2_frame_l2 (p1 : (List Int)) (x4 : Int) : Nat → List Int → Int → Option (List Int)
  | 0, _, _ => none
  | k2 + 1, l1, x5 =>
    ift (decide (x5 < (p1.length : Int)))
      (bnd (at? p1 x5) fun e3 =>
       grd (l1.length + 1 ≤ 4294967296) <|
       (ref2_frame_l2 p1 x4 k2) (l1 ++ [(IntKind.i64.wrap (e3 - x4))]) (IntKind.i64.wrap (x5 + (1 : Int))))
      (ref2_frame_j3 x4 l1)

def ref2_frame_j2 (p1 : (List Int)) (x4 : Int) : Option (List Int) :=
    ref2_frame_l2 p1 x4 BIG [] (0 : Int)

def ref2_frame_l1 (p1 : (List Int)) : Nat → Int → Int → Option (List Int)
  | 0, _, _ => none
  | k1 + 1, x1, x2 =>
    ift (decide (x2 < (p1.length : Int)))
      (bnd (at? p1 x2) fun e2 =>
       ift (decide (e2 < x1))
         (ref2_frame_j1 (ref2_frame_l1 p1 k1) x2 e2)
         (ref2_frame_j1 (ref2_frame_l1 p1 k1) x2 x1))
      (ref2_frame_j2 p1 x1)

def ref2_frame (p1 : (List Int)) : Option (List Int) :=
    ift ((p1.length : Int) == (0 : Int))
      (some [])
      (bnd (at? p1 (0 : Int)) fun e1 =>
       ref2_frame_l1 p1 BIG e1 (0 : Int))


theorem c_ref2_frame (p1 : (List Int)) (r : (List Int)) (h : ref2_frame p1 = some r) : PC Try.prog 63 [vl eI p1] (vl (eK .u8) r) := by
 unfold ref2_frame at h
 refine zF 56 Try.f63 (zq fun K1 hK1 => zr (zg [] 1 [0] (zd (hK1 _ _ (zq fun K2 hK2 => zq fun K3 hK3 => ?_)))))
 refine zr (zv [] 2 [0,11] [] [(0, vl eI p1), (11, vi ((eI.els p1).length : Int))] [] ?_)
 rw [eI.len p1]
 refine zg [] 1 [0,12] (zd (hK3 _ _ (zC h (fun b4 h => ?_) (fun b4 h => ?_))))
 ·refine zq fun K5 hK5 => zr (zg [] 1 [2] (zd (hK5 _ _ (ze ?_))))
  obtain rfl := Option.some.inj h
  exact zf [.one (.pv (.s (.slice none 0 0)))] (.one (.nl))
 ·refine zs (hK2 _ _ (zq fun K6 hK6 => ?_))
  obtain ⟨e1, a7, h⟩ := zB h
  refine zr (zp [] 4 [0,3] [[pi e1]] [(0, vl eI p1), (3, vi e1)] [] [0 ≤ (0 : Int) ∧ (0 : Int) < ((eI.els p1).length : Int) ∧ elemsOk 1 (eI.els p1), (eI.els p1)[(0 : Int).toNat]? = some [pi e1]] (⟨eI.inb a7, (eI.get a7), trivial⟩) (zd (hK6 _ _ (zq fun K8 hK8 => ?_))))
  have hJ2 : ∀ (x4 : Int), ref2_frame_j2 p1 x4 = some r → ∀ fr1 st1, Sub 56 0 [] fr1 st1 [(0, vl eI p1), (3, vi x4)] [] → K8 fr1 st1 := by
   intro x4 h fr1 st1 hS
   unfold ref2_frame_j2 at h
   refine hK8 _ _ (XW.sub hS ?_)
   refine zq fun K18 hK18 => zr (zg [] 1 [0,3,6] (zd (hK18 _ _ (zq fun K19 hK19 => ?_))))
   have hJ3 : ∀ (l2 : List Int), ref2_frame_j3 x4 l2 = some r → ∀ fr1 st1, Sub 56 0 [] fr1 st1 [(3, vi x4), (6, .one (.sl 0 1 0 l2.length))] [.arr 1 (eI.els l2)] → K19 fr1 st1 := by
    intro l2 h fr1 st1 hS
    unfold ref2_frame_j3 at h
    refine hK19 _ _ (XW.sub hS ?_)
    refine zq fun K28 hK28 => zr (zg [] 1 [3,6,9] (zd (hK28 _ _ (zq fun K29 hK29 => ?_))))
    have hJ4 : ∀ (x7 : Int), ref2_frame_j4 x4 l2 x7 = some r → ∀ fr1 st1, Sub 56 0 [] fr1 st1 [(3, vi x4), (6, vl eI l2), (9, vi x7)] [.dead] → K29 fr1 st1 := by
     intro x7 h fr1 st1 hS
     unfold ref2_frame_j4 at h
     refine hK29 _ _ (XW.sub hS ?_)
     refine zq fun K34 hK34 => ?_
     obtain ⟨r2, c35, h⟩ := zB h
     obtain ⟨g36, h⟩ := zG h
     obtain ⟨r3, c37, h⟩ := zB h
     obtain ⟨g38, h⟩ := zG h
     refine zr (zv [] 1 [6,9,46] [] [(6, vl eI l2), (9, vi x7), (46, vi x4)] [.dead] (XO.calx 61 [vi x4] [] [.arr 1 ((eK .u8).els r2)] [] (.one (.sl 0 1 0 r2.length)) [] [] [(47, .one (.sl 1 1 0 r2.length)), (6, vl eI l2), (9, vi x7), (46, vi x4)] [.dead, .arr 1 ((eK .u8).els r2)] (by kernel_rfl) (c_ref2_signed _ _ c35) (by kernel_rfl) (by kernel_rfl) (by kernel_rfl) (by kernel_rfl) (by kernel_rfl) (by kernel_rfl) (by kernel_rfl) ?_))
     refine zp [] 4 [6,9,51] [] [(6, vl eI l2), (9, vi x7), (51, .one (.sl 1 1 0 (r2.length + ((eK .u8).els [(IntKind.u8.wrap x7)]).length)))] [.dead, .arr 1 ((eK .u8).els r2 ++ (eK .u8).els [(IntKind.u8.wrap x7)])] [elemsOk 1 ((eK .u8).els [(IntKind.u8.wrap x7)]), r2.length = ((eK .u8).els r2).length, r2.length + ((eK .u8).els [(IntKind.u8.wrap x7)]).length ≤ 4294967296] (⟨(eK .u8).ok _, ((eK .u8).len r2).symm, g36, trivial⟩) ?_
     rw [show r2.length + ((eK .u8).els [(IntKind.u8.wrap x7)]).length = (r2 ++ [(IntKind.u8.wrap x7)]).length from (eK .u8).lapp _ _]
     rw [show (eK .u8).els r2 ++ (eK .u8).els [(IntKind.u8.wrap x7)] = (eK .u8).els (r2 ++ [(IntKind.u8.wrap x7)]) from (eK .u8).app2 _ _]
     refine zg [] 2 [51,52,53] (za (c_ref2_pack _ _ _ c37) ?_)
     refine zp [] 1 [55] [] [(55, .one (.sl 1 1 0 ((r2 ++ [(IntKind.u8.wrap x7)]).length + ((eK .u8).els r3).length)))] [.dead, .arr 1 ((eK .u8).els (r2 ++ [(IntKind.u8.wrap x7)]) ++ (eK .u8).els r3)] [elemsOk 1 ((eK .u8).els r3), (r2 ++ [(IntKind.u8.wrap x7)]).length = ((eK .u8).els (r2 ++ [(IntKind.u8.wrap x7)])).length, (r2 ++ [(IntKind.u8.wrap x7)]).length + ((eK .u8).els r3).length ≤ 4294967296] (⟨(eK .u8).ok _, ((eK .u8).len (r2 ++ [(IntKind.u8.wrap x7)])).symm, (by rw [(eK .u8).len]; exact g38), trivial⟩) ?_
     rw [show (r2 ++ [(IntKind.u8.wrap x7)]).length + ((eK .u8).els r3).length = ((r2 ++ [(IntKind.u8.wrap x7)]) ++ r3).length from (eK .u8).lapp _ _]
     rw [show (eK .u8).els (r2 ++ [(IntKind.u8.wrap x7)]) ++ (eK .u8).els r3 = (eK .u8).els ((r2 ++ [(IntKind.u8.wrap x7)]) ++ r3) from (eK .u8).app2 _ _]
     refine zg [] 1 [2] (zd (hK34 _ _ (ze ?_)))
     obtain rfl := Option.some.inj h
     exact zf [.one (.sl 1 1 0 (((r2 ++ [(IntKind.u8.wrap x7)]) ++ r3).length))] (.one (cf_sl (eK .u8) ((r2 ++ [(IntKind.u8.wrap x7)]) ++ r3) rfl rfl rfl))
    refine zb 4 (XW.sub (Sub.kill (fr' := [(3, vi x4), (6, vl eI l2), (9, vi (0 : Int))]) 0 (Nat.zero_le _) (by kernel_rfl) ⟨.one (.rfl _ rfl), .one (cf_sl eI l2 rfl rfl rfl), .one (.rfl _ rfl), trivial⟩) (XW.rounds' BIG (x := cd Try.f63 [1,1,1,1,1,1,1,0,0,0]) (by kernel_rfl) fun Q3 hQ3 => ?_))
    have hL3 : ∀ (k3 : Nat) (x6 : Int), ref2_frame_l3 x4 l2 k3 x6 = some r → XR Try.prog 56 0 [] (cd Try.f63 [1,1,1,1,1,1,1,0,0,0]) Q3 k3 [(3, vi x4), (6, vl eI l2), (9, vi x6)] [.dead] := by
     intro k3
     induction k3 with
     | zero => intro x6 h; rw [ref2_frame_l3.eq_1] at h; cases h
     | succ k3 ih3 =>
      intro x6 h
      rw [ref2_frame_l3.eq_2] at h
      refine zq fun K30 hK30 => zq fun K31 hK31 => ?_
      obtain ⟨r1, c32, h⟩ := zB h
      refine zr (zg [] 2 [3,6,9,40,41] (za (c_ref2_fits _ _ _ c32) (zv [] 1 [3,6,9,43] [] [(3, vi x4), (6, vl eI l2), (9, vi x6), (43, vb (!r1))] [.dead] (zd (hK31 _ _ (zC h (fun b33 h => ?_) (fun b33 h => ?_)))))))
      ·exact zs (hK30 _ _ (zb 5 (zr (zg [] 3 [3,6,9] (zd (XR.sub (zk [3,6,9]) (ih3 (IntKind.i64.wrap (x6 + (1 : Int))) h)))))))
      ·exact zx 4 (hQ3 _ _ _ (hJ4 x6 h _ _ (zk [3,6,9])))
    exact XR.sub (zk [3,6,9]) (hL3 BIG (0 : Int) h)
   refine zq fun K20 hK20 => zr (zv [] 2 [3,6,27,28] [] [(3, vi x4), (6, .one (.pv (.s (.slice none 0 0)))), (27, vl eI p1), (28, vi ((eI.els p1).length : Int))] [] ?_)
   rw [eI.len p1]
   refine zv [] 1 [3,6,27,28,29] [] [(3, vi x4), (6, .one (.pv (.s (.slice none 0 0)))), (27, vl eI p1), (28, vi (p1.length : Int)), (29, vi (0 : Int))] [] (zd (hK20 _ _ (zb 2 (XW.sub (Sub.list (t := 6) (sz := 1) rfl) (XW.rounds' BIG (x := cd Try.f63 [1,1,1,1,1,0,1,0,0]) (by kernel_rfl) fun Q2 hQ2 => ?_)))))
   have hL2 : ∀ (k2 : Nat) (l1 : List Int) (x5 : Int), ref2_frame_l2 p1 x4 k2 l1 x5 = some r → XR Try.prog 56 0 [] (cd Try.f63 [1,1,1,1,1,0,1,0,0]) Q2 k2 [(3, vi x4), (6, .one (.sl 0 1 0 l1.length)), (27, vl eI p1), (28, vi (p1.length : Int)), (29, vi x5)] [.arr 1 (eI.els l1)] := by
    intro k2
    induction k2 with
    | zero => intro l1 x5 h; rw [ref2_frame_l2.eq_1] at h; cases h
    | succ k2 ih2 =>
     intro l1 x5 h
     rw [ref2_frame_l2.eq_2] at h
     refine zq fun K21 hK21 => zr (zg [] 1 [3,6,27,28,29,30] (zd (hK21 _ _ (zq fun K22 hK22 => zC h (fun b23 h => ?_) (fun b23 h => ?_)))))
     ·refine zs (hK22 _ _ (zq fun K24 hK24 => zb 3 (zq fun K25 hK25 => ?_)))
      obtain ⟨e3, a26, h⟩ := zB h
      refine zr (zo [] 3 [3,6,8,27,28,29] [[pi e3]] [0 ≤ x5 ∧ x5 < ((eI.els p1).length : Int) ∧ elemsOk 1 (eI.els p1), (eI.els p1)[x5.toNat]? = some [pi e3]] (⟨eI.inb a26, (eI.get a26), trivial⟩) (zd (hK25 _ _ ?_)))
      obtain ⟨g27, h⟩ := zG h
      refine zr (zp [] 6 [3,27,28,29,38] [] [(3, vi x4), (27, vl eI p1), (28, vi (p1.length : Int)), (29, vi x5), (38, .one (.sl 0 1 0 (l1.length + (eI.els [(IntKind.i64.wrap (e3 - x4))]).length)))] [.arr 1 (eI.els l1 ++ eI.els [(IntKind.i64.wrap (e3 - x4))])] [elemsOk 1 (eI.els [(IntKind.i64.wrap (e3 - x4))]), l1.length = (eI.els l1).length, l1.length + (eI.els [(IntKind.i64.wrap (e3 - x4))]).length ≤ 4294967296] (⟨eI.ok _, (eI.len l1).symm, g27, trivial⟩) ?_)
      rw [show l1.length + (eI.els [(IntKind.i64.wrap (e3 - x4))]).length = (l1 ++ [(IntKind.i64.wrap (e3 - x4))]).length from eI.lapp _ _]
      rw [show eI.els l1 ++ eI.els [(IntKind.i64.wrap (e3 - x4))] = eI.els (l1 ++ [(IntKind.i64.wrap (e3 - x4))]) from eI.app2 _ _]
      exact zg [] 1 [3,6,27,28,29] (zd (hK24 _ _ (zr (zg [] 2 [3,6,27,28,29] (zd (XR.sub (zk [3,6,27,28,29]) (ih2 (l1 ++ [(IntKind.i64.wrap (e3 - x4))]) (IntKind.i64.wrap (x5 + (1 : Int))) h)))))))
     ·exact zx 2 (hQ2 _ _ _ (hJ3 l1 h _ _ (zk [3,6])))
   exact XR.sub (zk [3,6,27,28,29]) (hL2 BIG [] (0 : Int) h)
  refine zq fun K9 hK9 => zr (zv [] 2 [0,3,16,17] [] [(0, vl eI p1), (3, vi e1), (16, vl eI p1), (17, vi ((eI.els p1).length : Int))] [] ?_)
  rw [eI.len p1]
  refine zg [] 1 [0,3,16,17,18] (zd (hK9 _ _ (zb 0 (XW.rounds' BIG (x := cd Try.f63 [1,1,1,0,1,0,0]) (by kernel_rfl) fun Q1 hQ1 => ?_))))
  have hL1 : ∀ (k1 : Nat) (x1 : Int) (x2 : Int), ref2_frame_l1 p1 k1 x1 x2 = some r → XR Try.prog 56 0 [] (cd Try.f63 [1,1,1,0,1,0,0]) Q1 k1 [(0, vl eI p1), (3, vi x1), (16, vl eI p1), (17, vi (p1.length : Int)), (18, vi x2)] [] := by
   intro k1
   induction k1 with
   | zero => intro x1 x2 h; rw [ref2_frame_l1.eq_1] at h; cases h
   | succ k1 ih1 =>
    intro x1 x2 h
    rw [ref2_frame_l1.eq_2] at h
    refine zq fun K10 hK10 => zr (zg [] 1 [0,3,16,17,18,19] (zd (hK10 _ _ (zq fun K11 hK11 => zC h (fun b12 h => ?_) (fun b12 h => ?_)))))
    ·refine zs (hK11 _ _ (zq fun K13 hK13 => ?_))
     have hJ1 : ∀ (x3 : Int), ref2_frame_j1 (ref2_frame_l1 p1 k1) x2 x3 = some r → ∀ fr1 st1, Sub 56 0 [] fr1 st1 [(0, vl eI p1), (3, vi x3), (16, vl eI p1), (17, vi (p1.length : Int)), (18, vi x2)] [] → K13 fr1 st1 := by
      intro x3 h fr1 st1 hS
      unfold ref2_frame_j1 at h
      refine hK13 _ _ (XW.sub hS ?_)
      exact zr (zg [] 2 [0,3,16,17,18] (zd (XR.sub (zk [0,3,16,17,18]) (ih1 x3 (IntKind.i64.wrap (x2 + (1 : Int))) h))))
     refine zb 1 (zq fun K14 hK14 => ?_)
     obtain ⟨e2, a15, h⟩ := zB h
     refine zr (zo [] 3 [0,3,5,16,17,18] [[pi e2]] [0 ≤ x2 ∧ x2 < ((eI.els p1).length : Int) ∧ elemsOk 1 (eI.els p1), (eI.els p1)[x2.toNat]? = some [pi e2]] (⟨eI.inb a15, (eI.get a15), trivial⟩) (zd (hK14 _ _ (zq fun K16 hK16 => zr (zv [] 3 [0,3,5,16,17,18,24] [] [(0, vl eI p1), (3, vi x1), (5, vi e2), (16, vl eI p1), (17, vi (p1.length : Int)), (18, vi x2), (24, vb (decide (e2 < x1)))] [] (zd ?_))))))
     refine hK16 _ _ (zC h (fun b17 h => ?_) (fun b17 h => ?_))
     ·exact zr (zg [] 2 [0,3,16,17,18] (zd (hJ1 e2 h _ _ (zk [0,3,16,17,18]))))
     ·exact zs (hJ1 x1 h _ _ (zk [0,3,16,17,18]))
    ·exact zx 0 (hQ1 _ _ _ (hJ2 x1 h _ _ (zk [0,3])))
  exact XR.sub (zk [0,3,16,17,18]) (hL1 BIG e1 (0 : Int) h)

def ref2_sortedInts_j5 (rec1 : List Int → Int → Option (List Int)) (x1 : Int) (l3 : List Int) : Option (List Int) :=
    rec1 l3 (IntKind.i64.wrap (x1 + (1 : Int)))

def ref2_sortedInts_j4 (rec1 : List Int → Int → Option (List Int)) (x1 : Int) (e1 : Int) (x4 : Int) (l2 : List Int) : Option (List Int) :=
    bnd (at? l2 x4) fun e4 =>
    ref2_sortedInts_j5 rec1 x1 (l2.set x4.toNat e1)

def ref2_sortedInts_j3 (rec1 : List Int → Int → Option (List Int)) (l1 : List Int) (x1 : Int) (e1 : Int) (x4 : Int) (x5 : Bool) : Option (List Int) :=
    ift x5
      (ref2_sortedInts_j5 rec1 x1 l1)
      (grd (l1.length + 1 ≤ 4294967296) <|
       ift (decide ((IntKind.i64.wrap (x4 + (1 : Int))) < (((l1 ++ [(0 : Int)]).length : Nat) : Int)))
         (grd (0 ≤ (IntKind.i64.wrap (x4 + (1 : Int))) ∧ (IntKind.i64.wrap (x4 + (1 : Int))) ≤ (((l1 ++ [(0 : Int)]).length : Nat) : Int)) <|
          ift (decide (x4 < (((l1 ++ [(0 : Int)]).length : Nat) : Int)))
            (grd (0 ≤ x4 ∧ x4 ≤ (((l1 ++ [(0 : Int)]).length : Nat) : Int)) <|
             ref2_sortedInts_j4 rec1 x1 e1 x4 (cpyT (l1 ++ [(0 : Int)]) (0 + (IntKind.i64.wrap (x4 + (1 : Int))).toNat) ((((l1 ++ [(0 : Int)]).drop (0 + x4.toNat)).take ((l1 ++ [(0 : Int)]).length - x4.toNat)).take (min (((l1 ++ [(0 : Int)]).drop (0 + x4.toNat)).take ((l1 ++ [(0 : Int)]).length - x4.toNat)).length ((l1 ++ [(0 : Int)]).length - (IntKind.i64.wrap (x4 + (1 : Int))).toNat)))))
            (grd (0 ≤ x4 ∧ x4 ≤ (((l1 ++ [(0 : Int)]).length : Nat) : Int)) <|
             ref2_sortedInts_j4 rec1 x1 e1 x4 (cpyT (l1 ++ [(0 : Int)]) (0 + (IntKind.i64.wrap (x4 + (1 : Int))).toNat) (([] : List Int).take (min ([] : List Int).length ((l1 ++ [(0 : Int)]).length - (IntKind.i64.wrap (x4 + (1 : Int))).toNat))))))
         (grd (0 ≤ (IntKind.i64.wrap (x4 + (1 : Int))) ∧ (IntKind.i64.wrap (x4 + (1 : Int))) ≤ (((l1 ++ [(0 : Int)]).length : Nat) : Int)) <|
          ift (decide (x4 < (((l1 ++ [(0 : Int)]).length : Nat) : Int)))
            (grd (0 ≤ x4 ∧ x4 ≤ (((l1 ++ [(0 : Int)]).length : Nat) : Int)) <|
             ref2_sortedInts_j4 rec1 x1 e1 x4 (l1 ++ [(0 : Int)]))
            (grd (0 ≤ x4 ∧ x4 ≤ (((l1 ++ [(0 : Int)]).length : Nat) : Int)) <|
             ref2_sortedInts_j4 rec1 x1 e1 x4 (l1 ++ [(0 : Int)]))))

def ref2_sortedInts_j2 (rec1 : List Int → Int → Option (List Int)) (l1 : List Int) (x1 : Int) (e1 : Int) (x4 : Int) : Option (List Int) :=
    ift (decide (x4 < ((l1.length : Nat) : Int)))
      (bnd (at? l1 x4) fun e3 =>
       ref2_sortedInts_j3 rec1 l1 x1 e1 x4 (e3 == e1))
      (ref2_sortedInts_j3 rec1 l1 x1 e1 x4 false)

def ref2_sortedInts_j1 (rec1 : List Int → Int → Option (List Int)) (rec2 : Int → Option (List Int)) (l1 : List Int) (x1 : Int) (e1 : Int) (x2 : Int) (x3 : Bool) : Option (List Int) :=
    ift x3
      (rec2 (IntKind.i64.wrap (x2 + (1 : Int))))
      (ref2_sortedInts_j2 rec1 l1 x1 e1 x2)

def ref2_sortedInts_l2 (rec1 : List Int → Int → Option (List Int)) (l1 : List Int) (x1 : Int) (e1 : Int) : Nat → Int → Option (List Int)
  | 0, _ => none
  | k2 + 1, x2 =>
    ift (decide (x2 < ((l1.length : Nat) : Int)))
      (bnd (at? l1 x2) fun e2 =>
       ref2_sortedInts_j1 rec1 (ref2_sortedInts_l2 rec1 l1 x1 e1 k2) l1 x1 e1 x2 (decide (e2 < e1)))
      (ref2_sortedInts_j1 rec1 (ref2_sortedInts_l2 rec1 l1 x1 e1 k2) l1 x1 e1 x2 false)

def ref2_sortedInts_j6 (l4 : List Int) : Option (List Int) :=
    some l4

def ref2_sortedInts_l1 (p1 : (List Int)) : Nat → List Int → Int → Option (List Int)
  | 0, _, _ => none
  | k1 + 1, l1, x1 =>
    ift (decide (x1 < (p1.length : Int)))
      (bnd (at? p1 x1) fun e1 =>
       ref2_sortedInts_l2 (ref2_sortedInts_l1 p1 k1) l1 x1 e1 BIG (0 : Int))
      (ref2_sortedInts_j6 l1)

def ref2_sortedInts (p1 : (List Int)) : Option (List Int) :=
    ref2_sortedInts_l1 p1 BIG [] (0 : Int)

abbrev qa1229 (p1 : (List Int)) (l1 : List Int) (x1 : Int) (e1 : Int) (x4 : Int) : Fr := [(48, vl eI ([] : List Int)), (47, vi x4), (46, .one (.sl 0 1 0 ((l1 ++ [(0 : Int)]).length))), (45, .one (.sl 0 1 (0 + (IntKind.i64.wrap (x4 + (1 : Int))).toNat) ((l1 ++ [(0 : Int)]).length - (IntKind.i64.wrap (x4 + (1 : Int))).toNat))), (44, vi (IntKind.i64.wrap (x4 + (1 : Int)))), (43, vi x4), (42, .one (.sl 0 1 0 ((l1 ++ [(0 : Int)]).length))), (3, .one (.sl 0 1 0 ((l1 ++ [(0 : Int)]).length))), (5, vi e1), (6, vi x4), (7, vl eI p1), (8, vi (p1.length : Int)), (9, vi x1)]

theorem c_ref2_sortedInts (p1 : (List Int)) (r : (List Int)) (h : ref2_sortedInts p1 = some r) : PC Try.prog 64 [vl eI p1] (vl eI r) := by
 unfold ref2_sortedInts at h
 refine zF 56 Try.f64 (zq fun K1 hK1 => zr (zg [] 1 [0] (zd (hK1 _ _ (zq fun K2 hK2 => zr ?_)))))
 refine zg [] 1 [0,3] (zd (hK2 _ _ (zq fun K3 hK3 => ?_)))
 have hJ6 : ∀ (l4 : List Int), ref2_sortedInts_j6 l4 = some r → ∀ fr1 st1, Sub 56 0 [] fr1 st1 [(3, .one (.sl 0 1 0 l4.length))] [.arr 1 (eI.els l4)] → K3 fr1 st1 := by
  intro l4 h fr1 st1 hS
  unfold ref2_sortedInts_j6 at h
  refine hK3 _ _ (XW.sub hS ?_)
  refine zq fun K39 hK39 => zr (zg [] 2 [2] (zd (hK39 _ _ (ze ?_))))
  obtain rfl := Option.some.inj h
  exact zf [.one (.sl 0 1 0 l4.length)] (.one (cf_sl eI l4 rfl rfl rfl))
 refine zq fun K4 hK4 => zr (zv [] 2 [3,7,8] [] [(3, .one (.pv (.s (.slice none 0 0)))), (7, vl eI p1), (8, vi ((eI.els p1).length : Int))] [] ?_)
 rw [eI.len p1]
 refine zv [] 1 [3,7,8,9] [] [(3, .one (.pv (.s (.slice none 0 0)))), (7, vl eI p1), (8, vi (p1.length : Int)), (9, vi (0 : Int))] [] (zd (hK4 _ _ (zb 0 (XW.sub (Sub.list (t := 3) (sz := 1) rfl) (XW.rounds' BIG (x := cd Try.f64 [1,1,0,1,0,0]) (by kernel_rfl) fun Q1 hQ1 => ?_)))))
 have hL1 : ∀ (k1 : Nat) (l1 : List Int) (x1 : Int), ref2_sortedInts_l1 p1 k1 l1 x1 = some r → XR Try.prog 56 0 [] (cd Try.f64 [1,1,0,1,0,0]) Q1 k1 [(3, .one (.sl 0 1 0 l1.length)), (7, vl eI p1), (8, vi (p1.length : Int)), (9, vi x1)] [.arr 1 (eI.els l1)] := by
  intro k1
  induction k1 with
  | zero => intro l1 x1 h; rw [ref2_sortedInts_l1.eq_1] at h; cases h
  | succ k1 ih1 =>
   intro l1 x1 h
   rw [ref2_sortedInts_l1.eq_2] at h
   refine zq fun K5 hK5 => zr (zg [] 1 [3,7,8,9,10] (zd (hK5 _ _ (zq fun K6 hK6 => zC h (fun b7 h => ?_) (fun b7 h => ?_)))))
   ·refine zs (hK6 _ _ (zq fun K8 hK8 => ?_))
    have hJ5 : ∀ (l3 : List Int), ref2_sortedInts_j5 (ref2_sortedInts_l1 p1 k1) x1 l3 = some r → ∀ fr1 st1, Sub 56 0 [] fr1 st1 [(3, .one (.sl 0 1 0 l3.length)), (7, vl eI p1), (8, vi (p1.length : Int)), (9, vi x1)] [.arr 1 (eI.els l3)] → K8 fr1 st1 := by
     intro l3 h fr1 st1 hS
     unfold ref2_sortedInts_j5 at h
     refine hK8 _ _ (XW.sub hS ?_)
     exact zr (zg [] 2 [3,7,8,9] (zd (XR.sub (zk [3,7,8,9]) (ih1 l3 (IntKind.i64.wrap (x1 + (1 : Int))) h))))
    refine zb 1 (zq fun K9 hK9 => ?_)
    obtain ⟨e1, a10, h⟩ := zB h
    refine zr (zo [] 3 [3,5,7,8,9] [[pi e1]] [0 ≤ x1 ∧ x1 < ((eI.els p1).length : Int) ∧ elemsOk 1 (eI.els p1), (eI.els p1)[x1.toNat]? = some [pi e1]] (⟨eI.inb a10, (eI.get a10), trivial⟩) (zd (hK9 _ _ (zq fun K11 hK11 => zr (zv [] 1 [3,5,6,7,8,9] [] [(3, .one (.sl 0 1 0 l1.length)), (5, vi e1), (6, vi (0 : Int)), (7, vl eI p1), (8, vi (p1.length : Int)), (9, vi x1)] [.arr 1 (eI.els l1)] (zd ?_))))))
    refine hK11 _ _ (zq fun K12 hK12 => ?_)
    have hJ2 : ∀ (x4 : Int), ref2_sortedInts_j2 (ref2_sortedInts_l1 p1 k1) l1 x1 e1 x4 = some r → ∀ fr1 st1, Sub 56 0 [] fr1 st1 [(3, .one (.sl 0 1 0 l1.length)), (5, vi e1), (6, vi x4), (7, vl eI p1), (8, vi (p1.length : Int)), (9, vi x1)] [.arr 1 (eI.els l1)] → K12 fr1 st1 := by
     intro x4 h fr1 st1 hS
     unfold ref2_sortedInts_j2 at h
     refine hK12 _ _ (XW.sub hS ?_)
     refine zq fun K18 hK18 => zq fun K19 hK19 => ?_
     have hJ3 : ∀ (x5 : Bool), ref2_sortedInts_j3 (ref2_sortedInts_l1 p1 k1) l1 x1 e1 x4 x5 = some r → ∀ fr1 st1, Sub 56 0 [] fr1 st1 [(3, .one (.sl 0 1 0 l1.length)), (5, vi e1), (6, vi x4), (7, vl eI p1), (8, vi (p1.length : Int)), (9, vi x1), (38, vb x5)] [.arr 1 (eI.els l1)] → K19 fr1 st1 := by
      intro x5 h fr1 st1 hS
      unfold ref2_sortedInts_j3 at h
      refine hK19 _ _ (XW.sub hS ?_)
      refine zC h (fun b22 h => ?_) (fun b22 h => ?_)
      ·exact zx 1 (hJ5 l1 h _ _ (zk [3,7,8,9]))
      ·refine zs (hK18 _ _ (zq fun K23 hK23 => ?_))
       obtain ⟨g24, h⟩ := zG h
       refine zr (zp [] 3 [5,6,7,8,9,41] [] [(5, vi e1), (6, vi x4), (7, vl eI p1), (8, vi (p1.length : Int)), (9, vi x1), (41, .one (.sl 0 1 0 (l1.length + (eI.els [(0 : Int)]).length)))] [.arr 1 (eI.els l1 ++ eI.els [(0 : Int)])] [elemsOk 1 (eI.els [(0 : Int)]), l1.length = (eI.els l1).length, l1.length + (eI.els [(0 : Int)]).length ≤ 4294967296] (⟨eI.ok _, (eI.len l1).symm, g24, trivial⟩) ?_)
       rw [show l1.length + (eI.els [(0 : Int)]).length = (l1 ++ [(0 : Int)]).length from eI.lapp _ _]
       rw [show eI.els l1 ++ eI.els [(0 : Int)] = eI.els (l1 ++ [(0 : Int)]) from eI.app2 _ _]
       refine zg [] 1 [3,5,6,7,8,9] (zd (hK23 _ _ (zq fun K25 hK25 => ?_)))
       have hJ4 : ∀ (l2 : List Int), ref2_sortedInts_j4 (ref2_sortedInts_l1 p1 k1) x1 e1 x4 l2 = some r → ∀ fr1 st1, Sub 56 0 [] fr1 st1 [(3, .one (.sl 0 1 0 l2.length)), (5, vi e1), (6, vi x4), (7, vl eI p1), (8, vi (p1.length : Int)), (9, vi x1)] [.arr 1 (eI.els l2)] → K25 fr1 st1 := by
        intro l2 h fr1 st1 hS
        unfold ref2_sortedInts_j4 at h
        refine hK25 _ _ (XW.sub hS ?_)
        obtain ⟨e4, a38, h⟩ := zB h
        refine zr (zp [] 5 [3,7,8,9] [[pi e4]] [(3, .one (.sl 0 1 0 l2.length)), (7, vl eI p1), (8, vi (p1.length : Int)), (9, vi x1)] [.arr 1 ((eI.els l2).set (0 + x4.toNat) [pi e1])] [0 ≤ x4 ∧ x4 < ((l2.length : Nat) : Int), (eI.els l2)[(0 + x4.toNat)]? = some [pi e4]] (⟨Enc.inb' a38, (eI.get0 a38), trivial⟩) ?_)
        rw [show (eI.els l2).set (0 + x4.toNat) [pi e1] = eI.els (l2.set x4.toNat e1) from eI.set0 _ _ e1]
        exact zd (hJ5 (l2.set x4.toNat e1) h _ _ (Sub.trans (Sub.pick (fr' := [(3, .one (.sl 0 1 0 l2.length)), (7, vl eI p1), (8, vi (p1.length : Int)), (9, vi x1)]) [3,7,8,9] (by kernel_rfl)) (Sub.frame (fr' := [(3, .one (.sl 0 1 0 (l2.set x4.toNat e1).length)), (7, vl eI p1), (8, vi (p1.length : Int)), (9, vi x1)]) ⟨ALe.of_eq (show (.one (.sl 0 1 0 l2.length) : AV) = .one (.sl 0 1 0 (l2.set x4.toNat e1).length) from by simp), .rfl _, .rfl _, .rfl _, trivial⟩)))
       rcases zW h with ⟨b27, h⟩ | ⟨b27, h⟩
       ·obtain ⟨g28, h⟩ := zG h
        rcases zW h with ⟨b30, h⟩ | ⟨b30, h⟩
        ·obtain ⟨g31, h⟩ := zG h
         refine zw 7 [(48, .one (.sl 0 1 (0 + x4.toNat) ((l1 ++ [(0 : Int)]).length - x4.toNat))), (47, vi x4), (46, .one (.sl 0 1 0 ((l1 ++ [(0 : Int)]).length))), (45, .one (.sl 0 1 (0 + (IntKind.i64.wrap (x4 + (1 : Int))).toNat) ((l1 ++ [(0 : Int)]).length - (IntKind.i64.wrap (x4 + (1 : Int))).toNat))), (44, vi (IntKind.i64.wrap (x4 + (1 : Int)))), (43, vi x4), (42, .one (.sl 0 1 0 ((l1 ++ [(0 : Int)]).length))), (3, .one (.sl 0 1 0 ((l1 ++ [(0 : Int)]).length))), (5, vi e1), (6, vi x4), (7, vl eI p1), (8, vi (p1.length : Int)), (9, vi x1)] ?_ ?_
         ·refine zyg 3 ?_
          refine zyp 3 [] [(47, vi x4), (46, .one (.sl 0 1 0 ((l1 ++ [(0 : Int)]).length))), (45, .one (.sl 0 1 (0 + (IntKind.i64.wrap (x4 + (1 : Int))).toNat) ((l1 ++ [(0 : Int)]).length - (IntKind.i64.wrap (x4 + (1 : Int))).toNat))), (44, vi (IntKind.i64.wrap (x4 + (1 : Int)))), (43, vi x4), (42, .one (.sl 0 1 0 ((l1 ++ [(0 : Int)]).length))), (3, .one (.sl 0 1 0 ((l1 ++ [(0 : Int)]).length))), (5, vi e1), (6, vi x4), (7, vl eI p1), (8, vi (p1.length : Int)), (9, vi x1)] [(0 ≤ (IntKind.i64.wrap (x4 + (1 : Int))) ∧ (IntKind.i64.wrap (x4 + (1 : Int))) ≤ (((l1 ++ [(0 : Int)]).length : Nat) : Int) ∧ (((l1 ++ [(0 : Int)]).length : Nat) : Int) ≤ (((l1 ++ [(0 : Int)]).length : Nat) : Int)) ∧ ((IntKind.i64.wrap (x4 + (1 : Int))).toNat = 0 ∨ (IntKind.i64.wrap (x4 + (1 : Int))).toNat < (l1 ++ [(0 : Int)]).length)] (⟨⟨⟨g28.1, g28.2, Int.le_refl _⟩, .inr (by have := of_decide_eq_true b27; omega)⟩, trivial⟩) ?_
          exact zyo 1 [] [(0 ≤ x4 ∧ x4 ≤ (((l1 ++ [(0 : Int)]).length : Nat) : Int) ∧ (((l1 ++ [(0 : Int)]).length : Nat) : Int) ≤ (((l1 ++ [(0 : Int)]).length : Nat) : Int)) ∧ (x4.toNat = 0 ∨ x4.toNat < (l1 ++ [(0 : Int)]).length)] (⟨⟨⟨g31.1, g31.2, Int.le_refl _⟩, .inr (by have := of_decide_eq_true b30; omega)⟩, trivial⟩) zyd
         refine zp [] 1 [3,5,6,7,8,9] [] [(3, .one (.sl 0 1 0 ((l1 ++ [(0 : Int)]).length))), (5, vi e1), (6, vi x4), (7, vl eI p1), (8, vi (p1.length : Int)), (9, vi x1)] [.arr 1 (cpyL (eI.els (l1 ++ [(0 : Int)])) (0 + (IntKind.i64.wrap (x4 + (1 : Int))).toNat) ((((eI.els (l1 ++ [(0 : Int)])).drop (0 + x4.toNat)).take ((l1 ++ [(0 : Int)]).length - x4.toNat)).take (min (((eI.els (l1 ++ [(0 : Int)])).drop (0 + x4.toNat)).take ((l1 ++ [(0 : Int)]).length - x4.toNat)).length ((l1 ++ [(0 : Int)]).length - (IntKind.i64.wrap (x4 + (1 : Int))).toNat))))] [elemsOk 1 (((eI.els (l1 ++ [(0 : Int)])).drop (0 + x4.toNat)).take ((l1 ++ [(0 : Int)]).length - x4.toNat)), (0 + (IntKind.i64.wrap (x4 + (1 : Int))).toNat) + ((l1 ++ [(0 : Int)]).length - (IntKind.i64.wrap (x4 + (1 : Int))).toNat) ≤ (eI.els (l1 ++ [(0 : Int)])).length, (0 + x4.toNat) + ((l1 ++ [(0 : Int)]).length - x4.toNat) ≤ (eI.els (l1 ++ [(0 : Int)])).length] (⟨eI.okc _ _ _, (by rw [eI.len]; omega), (by rw [eI.len]; omega), trivial⟩) ?_
         rw [show cpyL (eI.els (l1 ++ [(0 : Int)])) (0 + (IntKind.i64.wrap (x4 + (1 : Int))).toNat) ((((eI.els (l1 ++ [(0 : Int)])).drop (0 + x4.toNat)).take ((l1 ++ [(0 : Int)]).length - x4.toNat)).take (min (((eI.els (l1 ++ [(0 : Int)])).drop (0 + x4.toNat)).take ((l1 ++ [(0 : Int)]).length - x4.toNat)).length ((l1 ++ [(0 : Int)]).length - (IntKind.i64.wrap (x4 + (1 : Int))).toNat))) = eI.els (cpyT (l1 ++ [(0 : Int)]) (0 + (IntKind.i64.wrap (x4 + (1 : Int))).toNat) ((((l1 ++ [(0 : Int)]).drop (0 + x4.toNat)).take ((l1 ++ [(0 : Int)]).length - x4.toNat)).take (min (((l1 ++ [(0 : Int)]).drop (0 + x4.toNat)).take ((l1 ++ [(0 : Int)]).length - x4.toNat)).length ((l1 ++ [(0 : Int)]).length - (IntKind.i64.wrap (x4 + (1 : Int))).toNat)))) from Enc.cpy eI _ _ _ _ _ _ (by omega)]
         refine zd ?_
         exact hJ4 (cpyT (l1 ++ [(0 : Int)]) (0 + (IntKind.i64.wrap (x4 + (1 : Int))).toNat) ((((l1 ++ [(0 : Int)]).drop (0 + x4.toNat)).take ((l1 ++ [(0 : Int)]).length - x4.toNat)).take (min (((l1 ++ [(0 : Int)]).drop (0 + x4.toNat)).take ((l1 ++ [(0 : Int)]).length - x4.toNat)).length ((l1 ++ [(0 : Int)]).length - (IntKind.i64.wrap (x4 + (1 : Int))).toNat)))) h _ _ (Sub.trans (Sub.pick (fr' := [(3, .one (.sl 0 1 0 ((l1 ++ [(0 : Int)]).length))), (5, vi e1), (6, vi x4), (7, vl eI p1), (8, vi (p1.length : Int)), (9, vi x1)]) [3,5,6,7,8,9] (by kernel_rfl)) (Sub.frame (fr' := [(3, .one (.sl 0 1 0 (cpyT (l1 ++ [(0 : Int)]) (0 + (IntKind.i64.wrap (x4 + (1 : Int))).toNat) ((((l1 ++ [(0 : Int)]).drop (0 + x4.toNat)).take ((l1 ++ [(0 : Int)]).length - x4.toNat)).take (min (((l1 ++ [(0 : Int)]).drop (0 + x4.toNat)).take ((l1 ++ [(0 : Int)]).length - x4.toNat)).length ((l1 ++ [(0 : Int)]).length - (IntKind.i64.wrap (x4 + (1 : Int))).toNat)))).length)), (5, vi e1), (6, vi x4), (7, vl eI p1), (8, vi (p1.length : Int)), (9, vi x1)]) ⟨ALe.of_eq (show (.one (.sl 0 1 0 ((l1 ++ [(0 : Int)]).length)) : AV) = .one (.sl 0 1 0 (cpyT (l1 ++ [(0 : Int)]) (0 + (IntKind.i64.wrap (x4 + (1 : Int))).toNat) ((((l1 ++ [(0 : Int)]).drop (0 + x4.toNat)).take ((l1 ++ [(0 : Int)]).length - x4.toNat)).take (min (((l1 ++ [(0 : Int)]).drop (0 + x4.toNat)).take ((l1 ++ [(0 : Int)]).length - x4.toNat)).length ((l1 ++ [(0 : Int)]).length - (IntKind.i64.wrap (x4 + (1 : Int))).toNat)))).length) from by simp [cpyT_length]), .rfl _, .rfl _, .rfl _, .rfl _, .rfl _, trivial⟩))
        ·obtain ⟨g32, h⟩ := zG h
         refine zw 7 (qa1229 p1 l1 x1 e1 x4) ?_ ?_
         ·refine zyg 3 (zyo 3 [] [(0 ≤ (IntKind.i64.wrap (x4 + (1 : Int))) ∧ (IntKind.i64.wrap (x4 + (1 : Int))) ≤ (((l1 ++ [(0 : Int)]).length : Nat) : Int) ∧ (((l1 ++ [(0 : Int)]).length : Nat) : Int) ≤ (((l1 ++ [(0 : Int)]).length : Nat) : Int)) ∧ ((IntKind.i64.wrap (x4 + (1 : Int))).toNat = 0 ∨ (IntKind.i64.wrap (x4 + (1 : Int))).toNat < (l1 ++ [(0 : Int)]).length)] (⟨⟨⟨g28.1, g28.2, Int.le_refl _⟩, .inr (by have := of_decide_eq_true b27; omega)⟩, trivial⟩) ?_)
          refine zyp 1 [[.rp [] 0 0]] (qa1229 p1 l1 x1 e1 x4) [(0 ≤ x4 ∧ x4 ≤ (((l1 ++ [(0 : Int)]).length : Nat) : Int) ∧ (((l1 ++ [(0 : Int)]).length : Nat) : Int) ≤ (((l1 ++ [(0 : Int)]).length : Nat) : Int)) ∧ x4.toNat = (((l1 ++ [(0 : Int)]).length : Nat) : Int).toNat] (⟨⟨⟨g32.1, g32.2, Int.le_refl _⟩, by have := of_decide_eq_false b30; omega⟩, trivial⟩) ?_
          exact zyd
         refine zp [] 1 [3,5,6,7,8,9] [] [(3, .one (.sl 0 1 0 ((l1 ++ [(0 : Int)]).length))), (5, vi e1), (6, vi x4), (7, vl eI p1), (8, vi (p1.length : Int)), (9, vi x1)] [.arr 1 (cpyL (eI.els (l1 ++ [(0 : Int)])) (0 + (IntKind.i64.wrap (x4 + (1 : Int))).toNat) ((eI.els ([] : List Int)).take (min (eI.els ([] : List Int)).length ((l1 ++ [(0 : Int)]).length - (IntKind.i64.wrap (x4 + (1 : Int))).toNat))))] [elemsOk 1 (eI.els ([] : List Int)), (0 + (IntKind.i64.wrap (x4 + (1 : Int))).toNat) + ((l1 ++ [(0 : Int)]).length - (IntKind.i64.wrap (x4 + (1 : Int))).toNat) ≤ (eI.els (l1 ++ [(0 : Int)])).length, True] (⟨eI.ok _, (by rw [eI.len]; omega), trivial, trivial⟩) ?_
         rw [show cpyL (eI.els (l1 ++ [(0 : Int)])) (0 + (IntKind.i64.wrap (x4 + (1 : Int))).toNat) ((eI.els ([] : List Int)).take (min (eI.els ([] : List Int)).length ((l1 ++ [(0 : Int)]).length - (IntKind.i64.wrap (x4 + (1 : Int))).toNat))) = eI.els (cpyT (l1 ++ [(0 : Int)]) (0 + (IntKind.i64.wrap (x4 + (1 : Int))).toNat) (([] : List Int).take (min ([] : List Int).length ((l1 ++ [(0 : Int)]).length - (IntKind.i64.wrap (x4 + (1 : Int))).toNat)))) from Enc.cpyR eI _ _ _ _ (by omega)]
         refine zd ?_
         exact hJ4 (cpyT (l1 ++ [(0 : Int)]) (0 + (IntKind.i64.wrap (x4 + (1 : Int))).toNat) (([] : List Int).take (min ([] : List Int).length ((l1 ++ [(0 : Int)]).length - (IntKind.i64.wrap (x4 + (1 : Int))).toNat)))) h _ _ (Sub.trans (Sub.pick (fr' := [(3, .one (.sl 0 1 0 ((l1 ++ [(0 : Int)]).length))), (5, vi e1), (6, vi x4), (7, vl eI p1), (8, vi (p1.length : Int)), (9, vi x1)]) [3,5,6,7,8,9] (by kernel_rfl)) (Sub.frame (fr' := [(3, .one (.sl 0 1 0 (cpyT (l1 ++ [(0 : Int)]) (0 + (IntKind.i64.wrap (x4 + (1 : Int))).toNat) (([] : List Int).take (min ([] : List Int).length ((l1 ++ [(0 : Int)]).length - (IntKind.i64.wrap (x4 + (1 : Int))).toNat)))).length)), (5, vi e1), (6, vi x4), (7, vl eI p1), (8, vi (p1.length : Int)), (9, vi x1)]) ⟨ALe.of_eq (show (.one (.sl 0 1 0 ((l1 ++ [(0 : Int)]).length)) : AV) = .one (.sl 0 1 0 (cpyT (l1 ++ [(0 : Int)]) (0 + (IntKind.i64.wrap (x4 + (1 : Int))).toNat) (([] : List Int).take (min ([] : List Int).length ((l1 ++ [(0 : Int)]).length - (IntKind.i64.wrap (x4 + (1 : Int))).toNat)))).length) from by simp [cpyT_length]), .rfl _, .rfl _, .rfl _, .rfl _, .rfl _, trivial⟩))
       ·obtain ⟨g33, h⟩ := zG h
        rcases zW h with ⟨b35, h⟩ | ⟨b35, h⟩
        ·obtain ⟨g36, h⟩ := zG h
         refine zw 7 [(48, .one (.sl 0 1 (0 + x4.toNat) ((l1 ++ [(0 : Int)]).length - x4.toNat))), (47, vi x4), (46, .one (.sl 0 1 0 ((l1 ++ [(0 : Int)]).length))), (45, vl eI ([] : List Int)), (44, vi (IntKind.i64.wrap (x4 + (1 : Int)))), (43, vi x4), (42, .one (.sl 0 1 0 ((l1 ++ [(0 : Int)]).length))), (3, .one (.sl 0 1 0 ((l1 ++ [(0 : Int)]).length))), (5, vi e1), (6, vi x4), (7, vl eI p1), (8, vi (p1.length : Int)), (9, vi x1)] ?_ ?_
         ·refine zyg 3 ?_
          refine zyp 3 [[.rp [] 0 0]] [(47, vi x4), (46, .one (.sl 0 1 0 ((l1 ++ [(0 : Int)]).length))), (45, vl eI ([] : List Int)), (44, vi (IntKind.i64.wrap (x4 + (1 : Int)))), (43, vi x4), (42, .one (.sl 0 1 0 ((l1 ++ [(0 : Int)]).length))), (3, .one (.sl 0 1 0 ((l1 ++ [(0 : Int)]).length))), (5, vi e1), (6, vi x4), (7, vl eI p1), (8, vi (p1.length : Int)), (9, vi x1)] [(0 ≤ (IntKind.i64.wrap (x4 + (1 : Int))) ∧ (IntKind.i64.wrap (x4 + (1 : Int))) ≤ (((l1 ++ [(0 : Int)]).length : Nat) : Int) ∧ (((l1 ++ [(0 : Int)]).length : Nat) : Int) ≤ (((l1 ++ [(0 : Int)]).length : Nat) : Int)) ∧ (IntKind.i64.wrap (x4 + (1 : Int))).toNat = (((l1 ++ [(0 : Int)]).length : Nat) : Int).toNat] (⟨⟨⟨g33.1, g33.2, Int.le_refl _⟩, by have := of_decide_eq_false b27; omega⟩, trivial⟩) ?_
          exact zyo 1 [] [(0 ≤ x4 ∧ x4 ≤ (((l1 ++ [(0 : Int)]).length : Nat) : Int) ∧ (((l1 ++ [(0 : Int)]).length : Nat) : Int) ≤ (((l1 ++ [(0 : Int)]).length : Nat) : Int)) ∧ (x4.toNat = 0 ∨ x4.toNat < (l1 ++ [(0 : Int)]).length)] (⟨⟨⟨g36.1, g36.2, Int.le_refl _⟩, .inr (by have := of_decide_eq_true b35; omega)⟩, trivial⟩) zyd
         exact zo [] 1 [3,5,6,7,8,9] [] [elemsOk 1 (((eI.els (l1 ++ [(0 : Int)])).drop (0 + x4.toNat)).take ((l1 ++ [(0 : Int)]).length - x4.toNat)), (0 + x4.toNat) + ((l1 ++ [(0 : Int)]).length - x4.toNat) ≤ (eI.els (l1 ++ [(0 : Int)])).length] (⟨eI.okc _ _ _, (by rw [eI.len]; omega), trivial⟩) (zd (hJ4 (l1 ++ [(0 : Int)]) h _ _ (zk [3,5,6,7,8,9])))
        ·obtain ⟨g37, h⟩ := zG h
         refine zw 7 [(48, vl eI ([] : List Int)), (47, vi x4), (46, .one (.sl 0 1 0 ((l1 ++ [(0 : Int)]).length))), (45, vl eI ([] : List Int)), (44, vi (IntKind.i64.wrap (x4 + (1 : Int)))), (43, vi x4), (42, .one (.sl 0 1 0 ((l1 ++ [(0 : Int)]).length))), (3, .one (.sl 0 1 0 ((l1 ++ [(0 : Int)]).length))), (5, vi e1), (6, vi x4), (7, vl eI p1), (8, vi (p1.length : Int)), (9, vi x1)] ?_ ?_
         ·refine zyv 3 [] [(44, vi (IntKind.i64.wrap (x4 + (1 : Int)))), (43, vi x4), (42, .one (.sl 0 1 0 ((l1 ++ [(0 : Int)]).length))), (3, .one (.sl 0 1 0 ((l1 ++ [(0 : Int)]).length))), (5, vi e1), (6, vi x4), (7, vl eI p1), (8, vi (p1.length : Int)), (9, vi x1)] ?_
          refine zyo 3 [[.rp [] 0 0]] [(0 ≤ (IntKind.i64.wrap (x4 + (1 : Int))) ∧ (IntKind.i64.wrap (x4 + (1 : Int))) ≤ (((l1 ++ [(0 : Int)]).length : Nat) : Int) ∧ (((l1 ++ [(0 : Int)]).length : Nat) : Int) ≤ (((l1 ++ [(0 : Int)]).length : Nat) : Int)) ∧ (IntKind.i64.wrap (x4 + (1 : Int))).toNat = (((l1 ++ [(0 : Int)]).length : Nat) : Int).toNat] (⟨⟨⟨g33.1, g33.2, Int.le_refl _⟩, by have := of_decide_eq_false b27; omega⟩, trivial⟩) ?_
          exact zyo 1 [[.rp [] 0 0]] [(0 ≤ x4 ∧ x4 ≤ (((l1 ++ [(0 : Int)]).length : Nat) : Int) ∧ (((l1 ++ [(0 : Int)]).length : Nat) : Int) ≤ (((l1 ++ [(0 : Int)]).length : Nat) : Int)) ∧ x4.toNat = (((l1 ++ [(0 : Int)]).length : Nat) : Int).toNat] (⟨⟨⟨g37.1, g37.2, Int.le_refl _⟩, by have := of_decide_eq_false b35; omega⟩, trivial⟩) zyd
         exact zp [] 1 [3,5,6,7,8,9] [] [(3, .one (.sl 0 1 0 ((l1 ++ [(0 : Int)]).length))), (5, vi e1), (6, vi x4), (7, vl eI p1), (8, vi (p1.length : Int)), (9, vi x1)] [.arr 1 (eI.els (l1 ++ [(0 : Int)]))] [elemsOk 1 (eI.els ([] : List Int)), True] (⟨eI.ok _, trivial, trivial⟩) (zd (hJ4 (l1 ++ [(0 : Int)]) h _ _ (zk [3,5,6,7,8,9])))
     rcases zW h with ⟨b20, h⟩ | ⟨b20, h⟩
     ·obtain ⟨e3, a21, h⟩ := zB h
      exact zr (zg [] 5 [3,5,6,7,8,9,31] (zt 31 b20 (zo [] 7 [3,5,6,7,8,9,38] [[pi e3]] [0 ≤ x4 ∧ x4 < ((l1.length : Nat) : Int), (eI.els l1)[(0 + x4.toNat)]? = some [pi e3]] (⟨Enc.inb' a21, (eI.get0 a21), trivial⟩) (zd (hJ3 (e3 == e1) h _ _ (zk [3,5,6,7,8,9,38]))))))
     ·exact zr (zv [] 5 [3,5,6,7,8,9,31] [] [(3, .one (.sl 0 1 0 l1.length)), (5, vi e1), (6, vi x4), (7, vl eI p1), (8, vi (p1.length : Int)), (9, vi x1), (31, vb (decide (x4 < ((l1.length : Nat) : Int))))] [.arr 1 (eI.els l1)] (zt 31 b20 (zg [] 7 [3,5,6,7,8,9,38] (zd (hJ3 false h _ _ (zk [3,5,6,7,8,9,38]))))))
    refine zb 2 (XW.rounds' BIG (x := cd Try.f64 [1,1,0,1,0,0,1,1,0,0,1,1,0,0,0]) (by kernel_rfl) fun Q2 hQ2 => ?_)
    have hL2 : ∀ (k2 : Nat) (x2 : Int), ref2_sortedInts_l2 (ref2_sortedInts_l1 p1 k1) l1 x1 e1 k2 x2 = some r → XR Try.prog 56 0 [] (cd Try.f64 [1,1,0,1,0,0,1,1,0,0,1,1,0,0,0]) Q2 k2 [(3, .one (.sl 0 1 0 l1.length)), (5, vi e1), (6, vi x2), (7, vl eI p1), (8, vi (p1.length : Int)), (9, vi x1)] [.arr 1 (eI.els l1)] := by
     intro k2
     induction k2 with
     | zero => intro x2 h; rw [ref2_sortedInts_l2.eq_1] at h; cases h
     | succ k2 ih2 =>
      intro x2 h
      rw [ref2_sortedInts_l2.eq_2] at h
      refine zq fun K13 hK13 => zq fun K14 hK14 => ?_
      have hJ1 : ∀ (x3 : Bool), ref2_sortedInts_j1 (ref2_sortedInts_l1 p1 k1) (ref2_sortedInts_l2 (ref2_sortedInts_l1 p1 k1) l1 x1 e1 k2) l1 x1 e1 x2 x3 = some r → ∀ fr1 st1, Sub 56 0 [] fr1 st1 [(3, .one (.sl 0 1 0 l1.length)), (5, vi e1), (6, vi x2), (7, vl eI p1), (8, vi (p1.length : Int)), (9, vi x1), (24, vb x3)] [.arr 1 (eI.els l1)] → K14 fr1 st1 := by
       intro x3 h fr1 st1 hS
       unfold ref2_sortedInts_j1 at h
       refine hK14 _ _ (XW.sub hS ?_)
       refine zC h (fun b17 h => ?_) (fun b17 h => ?_)
       ·exact zs (hK13 _ _ (zb 3 (zr (zg [] 3 [3,5,6,7,8,9] (zd (XR.sub (zk [3,5,6,7,8,9]) (ih2 (IntKind.i64.wrap (x2 + (1 : Int))) h)))))))
       ·exact zx 2 (hQ2 _ _ _ (hJ2 x2 h _ _ (zk [3,5,6,7,8,9])))
      rcases zW h with ⟨b15, h⟩ | ⟨b15, h⟩
      ·obtain ⟨e2, a16, h⟩ := zB h
       exact zr (zg [] 5 [3,5,6,7,8,9,17] (zt 17 b15 (zo [] 7 [3,5,6,7,8,9,24] [[pi e2]] [0 ≤ x2 ∧ x2 < ((l1.length : Nat) : Int), (eI.els l1)[(0 + x2.toNat)]? = some [pi e2]] (⟨Enc.inb' a16, (eI.get0 a16), trivial⟩) (zd (hJ1 (decide (e2 < e1)) h _ _ (zk [3,5,6,7,8,9,24]))))))
      ·exact zr (zv [] 5 [3,5,6,7,8,9,17] [] [(3, .one (.sl 0 1 0 l1.length)), (5, vi e1), (6, vi x2), (7, vl eI p1), (8, vi (p1.length : Int)), (9, vi x1), (17, vb (decide (x2 < ((l1.length : Nat) : Int))))] [.arr 1 (eI.els l1)] (zt 17 b15 (zg [] 7 [3,5,6,7,8,9,24] (zd (hJ1 false h _ _ (zk [3,5,6,7,8,9,24]))))))
    exact XR.sub (zk [3,5,6,7,8,9]) (hL2 BIG (0 : Int) h)
   ·exact zx 0 (hQ1 _ _ _ (hJ6 l1 h _ _ (zk [3])))
 exact XR.sub (zk [3,7,8,9]) (hL1 BIG [] (0 : Int) h)

def ref2_position_j1 : Option Int :=
    some (-1 : Int)

def ref2_position_l1 (p1 : (List Int)) (p2 : Int) : Nat → Int → Option Int
  | 0, _ => none
  | k1 + 1, x1 =>
    ift (decide (x1 < (p1.length : Int)))
      (bnd (at? p1 x1) fun e1 =>
       ift (e1 == p2)
         (some x1)
         ((ref2_position_l1 p1 p2 k1) (IntKind.i64.wrap (x1 + (1 : Int)))))
      (ref2_position_j1)

def ref2_position (p1 : (List Int)) (p2 : Int) : Option Int :=
    ref2_position_l1 p1 p2 BIG (0 : Int)


theorem c_ref2_position (p1 : (List Int)) (p2 : Int) (r : Int) (h : ref2_position p1 p2 = some r) : PC Try.prog 65 [vl eI p1, vi p2] (vi r) := by
 unfold ref2_position at h
 refine zF 19 Try.f65 (zq fun K1 hK1 => zr (zg [] 1 [0,1] (zd (hK1 _ _ (zq fun K2 hK2 => ?_)))))
 have hJ1 : ∀ (_ : Unit), ref2_position_j1 = some r → ∀ fr1 st1, Sub 19 0 [] fr1 st1 [] [] → K2 fr1 st1 := by
  intro _ h fr1 st1 hS
  unfold ref2_position_j1 at h
  refine hK2 _ _ (XW.sub hS ?_)
  refine zq fun K13 hK13 => zr (zg [] 1 [4] (zd (hK13 _ _ (ze ?_))))
  obtain rfl := Option.some.inj h
  exact zf [vi (-1 : Int)] (.one (.rfl _ rfl))
 refine zq fun K3 hK3 => zr (zv [] 2 [0,1,7] [] [(0, vl eI p1), (1, vi p2), (7, vi ((eI.els p1).length : Int))] [] ?_)
 rw [eI.len p1]
 refine zg [] 1 [0,1,7,8] (zd (hK3 _ _ (zb 0 (XW.rounds' BIG (x := cd Try.f65 [1,0,1,0,0]) (by kernel_rfl) fun Q1 hQ1 => ?_))))
 have hL1 : ∀ (k1 : Nat) (x1 : Int), ref2_position_l1 p1 p2 k1 x1 = some r → XR Try.prog 19 0 [] (cd Try.f65 [1,0,1,0,0]) Q1 k1 [(0, vl eI p1), (1, vi p2), (7, vi (p1.length : Int)), (8, vi x1)] [] := by
  intro k1
  induction k1 with
  | zero => intro x1 h; rw [ref2_position_l1.eq_1] at h; cases h
  | succ k1 ih1 =>
   intro x1 h
   rw [ref2_position_l1.eq_2] at h
   refine zq fun K4 hK4 => zr (zg [] 1 [0,1,7,8,9] (zd (hK4 _ _ (zq fun K5 hK5 => zC h (fun b6 h => ?_) (fun b6 h => ?_)))))
   ·refine zs (hK5 _ _ (zq fun K7 hK7 => zb 1 (zq fun K8 hK8 => zr (zg [] 2 [0,1,5,7,8] (zd ?_)))))
    refine hK8 _ _ (zq fun K9 hK9 => ?_)
    obtain ⟨e1, a10, h⟩ := zB h
    refine zr (zp [] 6 [0,1,5,7,8,16] [[pi e1]] [(0, vl eI p1), (1, vi p2), (5, vi x1), (7, vi (p1.length : Int)), (8, vi x1), (16, vb (e1 == p2))] [] [0 ≤ x1 ∧ x1 < ((eI.els p1).length : Int) ∧ elemsOk 1 (eI.els p1), (eI.els p1)[x1.toNat]? = some [pi e1]] (⟨eI.inb a10, (eI.get a10), trivial⟩) (zd (hK9 _ _ (zC h (fun b11 h => ?_) (fun b11 h => ?_)))))
    ·refine zq fun K12 hK12 => zr (zg [] 2 [4] (zd (hK12 _ _ (ze (hQ1 _ _ _ ?_)))))
     obtain rfl := Option.some.inj h
     exact zf [vi x1] (.one (.rfl _ rfl))
    ·exact zs (hK7 _ _ (zr (zg [] 2 [0,1,7,8] (zd (XR.sub (zk [0,1,7,8]) (ih1 (IntKind.i64.wrap (x1 + (1 : Int))) h))))))
   ·exact zx 0 (hQ1 _ _ _ (hJ1 () h _ _ (zk [])))
 exact XR.sub (zk [0,1,7,8]) (hL1 BIG (0 : Int) h)

def ref2_numbers_j4 (x9 : List Int) : Option (List Int) :=
    some x9

def ref2_numbers_l1 (p2 : (List Int)) : Nat → List Int → Int → Option (List Int)
  | 0, _, _ => none
  | k1 + 1, l1, x1 =>
    ift (decide (x1 < (p2.length : Int)))
      (bnd (at? p2 x1) fun e1 =>
       bnd (ref2_signed e1) fun r1 =>
       grd (l1.length + r1.length ≤ 4294967296) <|
       (ref2_numbers_l1 p2 k1) (l1 ++ r1) (IntKind.i64.wrap (x1 + (1 : Int))))
      (ref2_numbers_j4 l1)

def ref2_numbers_j2 (rec2 : List Int → Int → Option (List Int)) (p2 : (List Int)) (l2 : List Int) (x2 : Int) (x5 : Int) : Option (List Int) :=
    bnd (ref2_number (IntKind.u64.wrap (IntKind.i64.wrap (x5 - x2)))) fun r2 =>
    grd (l2.length + r2.length ≤ 4294967296) <|
    bnd (at? p2 x2) fun e4 =>
    bnd (ref2_signed e4) fun r3 =>
    grd ((l2 ++ r2).length + r3.length ≤ 4294967296) <|
    rec2 ((l2 ++ r2) ++ r3) x5

def ref2_numbers_j1 (rec2 : List Int → Int → Option (List Int)) (rec3 : Int → Option (List Int)) (p2 : (List Int)) (l2 : List Int) (x2 : Int) (x3 : Int) (x4 : Bool) : Option (List Int) :=
    ift x4
      (rec3 (IntKind.i64.wrap (x3 + (1 : Int))))
      (ref2_numbers_j2 rec2 p2 l2 x2 x3)

def ref2_numbers_l3 (rec2 : List Int → Int → Option (List Int)) (p2 : (List Int)) (l2 : List Int) (x2 : Int) : Nat → Int → Option (List Int)
  | 0, _ => none
  | k3 + 1, x3 =>
    ift (decide (x3 < (p2.length : Int)))
      (bnd (at? p2 x3) fun e2 =>
       bnd (at? p2 x2) fun e3 =>
       ref2_numbers_j1 rec2 (ref2_numbers_l3 rec2 p2 l2 x2 k3) p2 l2 x2 x3 (e2 == e3))
      (ref2_numbers_j1 rec2 (ref2_numbers_l3 rec2 p2 l2 x2 k3) p2 l2 x2 x3 false)

def ref2_numbers_l2 (p2 : (List Int)) : Nat → List Int → Int → Option (List Int)
  | 0, _, _ => none
  | k2 + 1, l2, x2 =>
    ift (decide (x2 < (p2.length : Int)))
      (ref2_numbers_l3 (ref2_numbers_l2 p2 k2) p2 l2 x2 BIG x2)
      (ref2_numbers_j4 l2)

def ref2_numbers_l4 (p2 : (List Int)) : Nat → List Int → Int → Int → Option (List Int)
  | 0, _, _, _ => none
  | k4 + 1, l3, x6, x7 =>
    ift (decide (x7 < (p2.length : Int)))
      (bnd (at? p2 x7) fun e5 =>
       bnd (ref2_signed (IntKind.i64.wrap (e5 - x6))) fun r4 =>
       grd (l3.length + r4.length ≤ 4294967296) <|
       (ref2_numbers_l4 p2 k4) (l3 ++ r4) e5 (IntKind.i64.wrap (x7 + (1 : Int))))
      (ref2_numbers_j4 l3)

def ref2_numbers_j3 (q_ref2_numbers : Int → (List Int) → Option (List Int)) (r6 : (List Int)) (l5 : List Int) : Option (List Int) :=
    bnd (ref2_number (IntKind.u64.wrap (r6.length : Int))) fun r8 =>
    bnd (q_ref2_numbers (2 : Int) r6) fun r9 =>
    grd (r8.length + r9.length ≤ 4294967296) <|
    bnd (ref2_frame l5) fun r10 =>
    grd ((r8 ++ r9).length + r10.length ≤ 4294967296) <|
    ref2_numbers_j4 ((r8 ++ r9) ++ r10)

def ref2_numbers_l5 (q_ref2_numbers : Int → (List Int) → Option (List Int)) (p2 : (List Int)) (r6 : (List Int)) : Nat → List Int → Int → Option (List Int)
  | 0, _, _ => none
  | k5 + 1, l4, x8 =>
    ift (decide (x8 < (p2.length : Int)))
      (bnd (at? p2 x8) fun e6 =>
       bnd (ref2_position r6 e6) fun r7 =>
       grd (l4.length + 1 ≤ 4294967296) <|
       (ref2_numbers_l5 q_ref2_numbers p2 r6 k5) (l4 ++ [r7]) (IntKind.i64.wrap (x8 + (1 : Int))))
      (ref2_numbers_j3 q_ref2_numbers r6 l4)

def ref2_numbers : Nat → Int → (List Int) → Option (List Int)
  | 0, _, _ => none
  | k0 + 1, p1, p2 =>
    ift (p1 == (0 : Int))
      (ref2_numbers_l1 p2 BIG [] (0 : Int))
      (ift (p1 == (1 : Int))
         (ref2_numbers_l2 p2 BIG [] (0 : Int))
         (ift (p1 == (2 : Int))
            (ref2_numbers_l4 p2 BIG [] (0 : Int) (0 : Int))
            (ift (p1 == (3 : Int))
               (bnd (ref2_frame p2) fun r5 =>
                some r5)
               (bnd (ref2_sortedInts p2) fun r6 =>
                ref2_numbers_l5 (ref2_numbers k0) p2 r6 BIG [] (0 : Int)))))

abbrev qa1288 (p2 : (List Int)) (l3 : List Int) (x7 : Int) (e5 : Int) (r4 : (List Int)) : Fr := [(5, .one (.sl 0 1 0 ((l3 ++ r4).length))), (10, vi e5), (98, vl eI p2), (99, vi (p2.length : Int)), (100, vi (IntKind.i64.wrap (x7 + (1 : Int))))]

theorem c_ref2_numbers : ∀ (k0 : Nat) (p1 : Int) (p2 : (List Int)) (r : (List Int)), ref2_numbers k0 p1 p2 = some r → PC Try.prog 41 [vi p1, vl eI p2] (vl (eK .u8) r)
 | 0, _, _, r, h => by rw [ref2_numbers.eq_1] at h; cases h
 | k0 + 1, p1, p2, r, h => by
  rw [ref2_numbers.eq_2] at h
  refine zF 117 Try.f41 (zq fun K1 hK1 => zr (zg [] 1 [0,1] (zd (hK1 _ _ (zq fun K2 hK2 => zr ?_)))))
  refine zg [] 1 [0,1,5] (zd (hK2 _ _ (zq fun K3 hK3 => ?_)))
  have hJ4 : ∀ (x9 : List Int), ref2_numbers_j4 x9 = some r → ∀ fr1 st1, Sub 117 0 [] fr1 st1 [(5, vl (eK .u8) x9)] [] → K3 fr1 st1 := by
   intro x9 h fr1 st1 hS
   unfold ref2_numbers_j4 at h
   refine hK3 _ _ (XW.sub hS ?_)
   refine zq fun K73 hK73 => zr (zg [] 2 [4] (zd (hK73 _ _ (ze ?_))))
   obtain rfl := Option.some.inj h
   exact zf [vl (eK .u8) x9] (.one (.rfl _ rfl))
  refine zq fun K4 hK4 => zr (zv [] 1 [1,5,17] [] [(1, vl eI p2), (5, .one (.pv (.s (.slice none 0 0)))), (17, vi p1)] [] (zd (hK4 _ _ (zb 0 (zq fun K5 hK5 => zr ?_)))))
  refine zg [] 2 [1,5,17,44] (zd (hK5 _ _ (zC h (fun b6 h => ?_) (fun b6 h => ?_))))
  ·refine zq fun K7 hK7 => zr (zv [] 2 [5,46,47] [] [(5, .one (.pv (.s (.slice none 0 0)))), (46, vl eI p2), (47, vi ((eI.els p2).length : Int))] [] ?_)
   rw [eI.len p2]
   refine zv [] 1 [5,46,47,48] [] [(5, .one (.pv (.s (.slice none 0 0)))), (46, vl eI p2), (47, vi (p2.length : Int)), (48, vi (0 : Int))] [] (zd (hK7 _ _ (zb 3 (XW.sub (Sub.list (t := 5) (sz := 1) rfl) (XW.rounds' BIG (x := cd Try.f41 [1,1,0,1,0,1,0,1,0,0]) (by kernel_rfl) fun Q1 hQ1 => ?_)))))
   have hL1 : ∀ (k1 : Nat) (l1 : List Int) (x1 : Int), ref2_numbers_l1 p2 k1 l1 x1 = some r → XR Try.prog 117 0 [] (cd Try.f41 [1,1,0,1,0,1,0,1,0,0]) Q1 k1 [(5, .one (.sl 0 1 0 l1.length)), (46, vl eI p2), (47, vi (p2.length : Int)), (48, vi x1)] [.arr 1 ((eK .u8).els l1)] := by
    intro k1
    induction k1 with
    | zero => intro l1 x1 h; rw [ref2_numbers_l1.eq_1] at h; cases h
    | succ k1 ih1 =>
     intro l1 x1 h
     rw [ref2_numbers_l1.eq_2] at h
     refine zq fun K8 hK8 => zr (zg [] 1 [5,46,47,48,49] (zd (hK8 _ _ (zq fun K9 hK9 => zC h (fun b10 h => ?_) (fun b10 h => ?_)))))
     ·refine zs (hK9 _ _ (zq fun K11 hK11 => zb 4 (zq fun K12 hK12 => ?_)))
      obtain ⟨e1, a13, h⟩ := zB h
      refine zr (zo [] 3 [5,7,46,47,48] [[pi e1]] [0 ≤ x1 ∧ x1 < ((eI.els p2).length : Int) ∧ elemsOk 1 (eI.els p2), (eI.els p2)[x1.toNat]? = some [pi e1]] (⟨eI.inb a13, (eI.get a13), trivial⟩) (zd (hK12 _ _ ?_)))
      obtain ⟨r1, c14, h⟩ := zB h
      obtain ⟨g15, h⟩ := zG h
      refine zr (zv [] 2 [46,47,48,52,53] [] [(46, vl eI p2), (47, vi (p2.length : Int)), (48, vi x1), (52, .one (.sl 0 1 0 l1.length)), (53, vi e1)] [.arr 1 ((eK .u8).els l1)] ?_)
      refine XO.calx 61 [vi e1] [] [.arr 1 ((eK .u8).els r1)] [] (.one (.sl 0 1 0 r1.length)) [] [] [(54, .one (.sl 1 1 0 r1.length)), (46, vl eI p2), (47, vi (p2.length : Int)), (48, vi x1), (52, .one (.sl 0 1 0 l1.length)), (53, vi e1)] [.arr 1 ((eK .u8).els l1), .arr 1 ((eK .u8).els r1)] (by kernel_rfl) (c_ref2_signed _ _ c14) (by kernel_rfl) (by kernel_rfl) (by kernel_rfl) (by kernel_rfl) (by kernel_rfl) (by kernel_rfl) (by kernel_rfl) ?_
      refine XO.sub (Sub.kill (fr' := [(54, vl (eK .u8) r1), (46, vl eI p2), (47, vi (p2.length : Int)), (48, vi x1), (52, .one (.sl 0 1 0 l1.length)), (53, vi e1)]) 1 (Nat.zero_le _) (by kernel_rfl) ⟨.one (cf_sl (eK .u8) r1 rfl rfl rfl), .one (.rfl _ rfl), .one (.rfl _ rfl), .one (.rfl _ rfl), .one (.rfl _ rfl), .one (.rfl _ rfl), trivial⟩) ?_
      refine zp [] 1 [46,47,48,55] [] [(46, vl eI p2), (47, vi (p2.length : Int)), (48, vi x1), (55, .one (.sl 0 1 0 (l1.length + ((eK .u8).els r1).length)))] [.arr 1 ((eK .u8).els l1 ++ (eK .u8).els r1), .dead] [elemsOk 1 ((eK .u8).els r1), l1.length = ((eK .u8).els l1).length, l1.length + ((eK .u8).els r1).length ≤ 4294967296] (⟨(eK .u8).ok _, ((eK .u8).len l1).symm, (by rw [(eK .u8).len]; exact g15), trivial⟩) ?_
      rw [show l1.length + ((eK .u8).els r1).length = (l1 ++ r1).length from (eK .u8).lapp _ _]
      rw [show (eK .u8).els l1 ++ (eK .u8).els r1 = (eK .u8).els (l1 ++ r1) from (eK .u8).app2 _ _]
      exact zg [] 1 [5,46,47,48] (zd (hK11 _ _ (zr (zg [] 2 [5,46,47,48] (zd (XR.sub (Sub.trans (Sub.pick (fr' := [(5, .one (.sl 0 1 0 ((l1 ++ r1).length))), (46, vl eI p2), (47, vi (p2.length : Int)), (48, vi (IntKind.i64.wrap (x1 + (1 : Int))))]) [5,46,47,48] (by kernel_rfl)) (Sub.take (fr' := [(5, .one (.sl 0 1 0 ((l1 ++ r1).length))), (46, vl eI p2), (47, vi (p2.length : Int)), (48, vi (IntKind.i64.wrap (x1 + (1 : Int))))]) 1 (Nat.zero_le _) (by kernel_rfl) (by kernel_rfl))) (ih1 (l1 ++ r1) (IntKind.i64.wrap (x1 + (1 : Int))) h)))))))
     ·exact zx 3 (hQ1 _ _ _ (hJ4 l1 h _ _ (Sub.trans (Sub.kill (fr' := [(5, vl (eK .u8) l1), (46, vl eI p2), (47, vi (p2.length : Int)), (48, vi x1), (49, vb (decide (x1 < (p2.length : Int))))]) 0 (Nat.zero_le _) (by kernel_rfl) ⟨.one (cf_sl (eK .u8) l1 rfl rfl rfl), .one (.rfl _ rfl), .one (.rfl _ rfl), .one (.rfl _ rfl), .one (.rfl _ rfl), trivial⟩) (Sub.trans (Sub.pick (fr' := [(5, vl (eK .u8) l1)]) [5] (by kernel_rfl)) (Sub.take (fr' := [(5, vl (eK .u8) l1)]) 0 (Nat.zero_le _) (by kernel_rfl) (by kernel_rfl))))))
   exact XR.sub (zk [5,46,47,48]) (hL1 BIG [] (0 : Int) h)
  ·refine zq fun K16 hK16 => zr (zg [] 2 [1,5,17,57] (zd (hK16 _ _ (zC h (fun b17 h => ?_) (fun b17 h => ?_)))))
   ·refine zq fun K18 hK18 => zr (zv [] 1 [1,5,8] [] [(1, vl eI p2), (5, .one (.pv (.s (.slice none 0 0)))), (8, vi (0 : Int))] [] (zd (hK18 _ _ (zb 5 (XW.sub (Sub.list (t := 5) (sz := 1) rfl) (XW.rounds' BIG (x := cd Try.f41 [1,1,0,1,0,1,1,1,0,1,0,0]) (by kernel_rfl) fun Q2 hQ2 => ?_))))))
    have hL2 : ∀ (k2 : Nat) (l2 : List Int) (x2 : Int), ref2_numbers_l2 p2 k2 l2 x2 = some r → XR Try.prog 117 0 [] (cd Try.f41 [1,1,0,1,0,1,1,1,0,1,0,0]) Q2 k2 [(1, vl eI p2), (5, .one (.sl 0 1 0 l2.length)), (8, vi x2)] [.arr 1 ((eK .u8).els l2)] := by
     intro k2
     induction k2 with
     | zero => intro l2 x2 h; rw [ref2_numbers_l2.eq_1] at h; cases h
     | succ k2 ih2 =>
      intro l2 x2 h
      rw [ref2_numbers_l2.eq_2] at h
      refine zq fun K19 hK19 => zq fun K20 hK20 => zr (zv [] 3 [1,5,8,59,61] [] [(1, vl eI p2), (5, .one (.sl 0 1 0 l2.length)), (8, vi x2), (59, vi x2), (61, vi ((eI.els p2).length : Int))] [.arr 1 ((eK .u8).els l2)] ?_)
      rw [eI.len p2]
      refine zg [] 1 [1,5,8,62] (zd (hK20 _ _ (zC h (fun b21 h => ?_) (fun b21 h => ?_))))
      ·refine zs (hK19 _ _ (zb 6 (zq fun K22 hK22 => zr (zg [] 2 [1,5,8,9] (zd (hK22 _ _ ?_))))))
       refine zq fun K23 hK23 => ?_
       have hJ2 : ∀ (x5 : Int), ref2_numbers_j2 (ref2_numbers_l2 p2 k2) p2 l2 x2 x5 = some r → ∀ fr1 st1, Sub 117 0 [] fr1 st1 [(1, vl eI p2), (5, .one (.sl 0 1 0 l2.length)), (8, vi x2), (9, vi x5)] [.arr 1 ((eK .u8).els l2)] → K23 fr1 st1 := by
        intro x5 h fr1 st1 hS
        unfold ref2_numbers_j2 at h
        refine hK23 _ _ (XW.sub hS ?_)
        refine zq fun K30 hK30 => ?_
        obtain ⟨r2, c31, h⟩ := zB h
        obtain ⟨g32, h⟩ := zG h
        refine zr (zv [] 5 [1,8,9,81,85] [] [(1, vl eI p2), (8, vi x2), (9, vi x5), (81, .one (.sl 0 1 0 l2.length)), (85, vk .u64 (IntKind.u64.wrap (IntKind.i64.wrap (x5 - x2))))] [.arr 1 ((eK .u8).els l2)] ?_)
        refine XO.calx 62 [vk .u64 (IntKind.u64.wrap (IntKind.i64.wrap (x5 - x2)))] [] [.arr 1 ((eK .u8).els r2)] [] (.one (.sl 0 1 0 r2.length)) [] [] [(86, .one (.sl 1 1 0 r2.length)), (1, vl eI p2), (8, vi x2), (9, vi x5), (81, .one (.sl 0 1 0 l2.length)), (85, vk .u64 (IntKind.u64.wrap (IntKind.i64.wrap (x5 - x2))))] [.arr 1 ((eK .u8).els l2), .arr 1 ((eK .u8).els r2)] (by kernel_rfl) (c_ref2_number _ _ c31) (by kernel_rfl) (by kernel_rfl) (by kernel_rfl) (by kernel_rfl) (by kernel_rfl) (by kernel_rfl) (by kernel_rfl) ?_
        refine XO.sub (Sub.kill (fr' := [(86, vl (eK .u8) r2), (1, vl eI p2), (8, vi x2), (9, vi x5), (81, .one (.sl 0 1 0 l2.length)), (85, vk .u64 (IntKind.u64.wrap (IntKind.i64.wrap (x5 - x2))))]) 1 (Nat.zero_le _) (by kernel_rfl) ⟨.one (cf_sl (eK .u8) r2 rfl rfl rfl), .one (.rfl _ rfl), .one (.rfl _ rfl), .one (.rfl _ rfl), .one (.rfl _ rfl), .one (.rfl _ rfl), trivial⟩) ?_
        refine zp [] 1 [1,8,9,87] [] [(1, vl eI p2), (8, vi x2), (9, vi x5), (87, .one (.sl 0 1 0 (l2.length + ((eK .u8).els r2).length)))] [.arr 1 ((eK .u8).els l2 ++ (eK .u8).els r2), .dead] [elemsOk 1 ((eK .u8).els r2), l2.length = ((eK .u8).els l2).length, l2.length + ((eK .u8).els r2).length ≤ 4294967296] (⟨(eK .u8).ok _, ((eK .u8).len l2).symm, (by rw [(eK .u8).len]; exact g32), trivial⟩) ?_
        rw [show l2.length + ((eK .u8).els r2).length = (l2 ++ r2).length from (eK .u8).lapp _ _]
        rw [show (eK .u8).els l2 ++ (eK .u8).els r2 = (eK .u8).els (l2 ++ r2) from (eK .u8).app2 _ _]
        refine zg [] 1 [1,5,8,9] (zd (hK30 _ _ (zq fun K33 hK33 => ?_)))
        obtain ⟨e4, a34, h⟩ := zB h
        obtain ⟨r3, c35, h⟩ := zB h
        obtain ⟨g36, h⟩ := zG h
        refine zr (zp [] 5 [1,9,88,92] [[pi e4]] [(1, vl eI p2), (9, vi x5), (88, .one (.sl 0 1 0 ((l2 ++ r2).length))), (92, vi e4)] [.arr 1 ((eK .u8).els (l2 ++ r2)), .dead] [0 ≤ x2 ∧ x2 < ((eI.els p2).length : Int) ∧ elemsOk 1 (eI.els p2), (eI.els p2)[x2.toNat]? = some [pi e4]] (⟨eI.inb a34, (eI.get a34), trivial⟩) ?_)
        refine XO.calx 61 [vi e4] [] [.arr 1 ((eK .u8).els r3)] [] (.one (.sl 0 1 0 r3.length)) [] [] [(93, .one (.sl 2 1 0 r3.length)), (1, vl eI p2), (9, vi x5), (88, .one (.sl 0 1 0 ((l2 ++ r2).length))), (92, vi e4)] [.arr 1 ((eK .u8).els (l2 ++ r2)), .dead, .arr 1 ((eK .u8).els r3)] (by kernel_rfl) (c_ref2_signed _ _ c35) (by kernel_rfl) (by kernel_rfl) (by kernel_rfl) (by kernel_rfl) (by kernel_rfl) (by kernel_rfl) (by kernel_rfl) ?_
        refine XO.sub (Sub.kill (fr' := [(93, vl (eK .u8) r3), (1, vl eI p2), (9, vi x5), (88, .one (.sl 0 1 0 ((l2 ++ r2).length))), (92, vi e4)]) 2 (Nat.zero_le _) (by kernel_rfl) ⟨.one (cf_sl (eK .u8) r3 rfl rfl rfl), .one (.rfl _ rfl), .one (.rfl _ rfl), .one (.rfl _ rfl), .one (.rfl _ rfl), trivial⟩) ?_
        refine zp [] 1 [1,9,94] [] [(1, vl eI p2), (9, vi x5), (94, .one (.sl 0 1 0 ((l2 ++ r2).length + ((eK .u8).els r3).length)))] [.arr 1 ((eK .u8).els (l2 ++ r2) ++ (eK .u8).els r3), .dead, .dead] [elemsOk 1 ((eK .u8).els r3), (l2 ++ r2).length = ((eK .u8).els (l2 ++ r2)).length, (l2 ++ r2).length + ((eK .u8).els r3).length ≤ 4294967296] (⟨(eK .u8).ok _, ((eK .u8).len (l2 ++ r2)).symm, (by rw [(eK .u8).len]; exact g36), trivial⟩) ?_
        rw [show (l2 ++ r2).length + ((eK .u8).els r3).length = ((l2 ++ r2) ++ r3).length from (eK .u8).lapp _ _]
        rw [show (eK .u8).els (l2 ++ r2) ++ (eK .u8).els r3 = (eK .u8).els ((l2 ++ r2) ++ r3) from (eK .u8).app2 _ _]
        exact zg [] 1 [1,5,9] (zd (hK33 _ _ (zr (zg [] 2 [1,5,8] (zd (XR.sub (Sub.trans (Sub.pick (fr' := [(1, vl eI p2), (5, .one (.sl 0 1 0 (((l2 ++ r2) ++ r3).length))), (8, vi x5)]) [1,5,8] (by kernel_rfl)) (Sub.take (fr' := [(1, vl eI p2), (5, .one (.sl 0 1 0 (((l2 ++ r2) ++ r3).length))), (8, vi x5)]) 1 (Nat.zero_le _) (by kernel_rfl) (by kernel_rfl))) (ih2 ((l2 ++ r2) ++ r3) x5 h)))))))
       refine zb 7 (XW.rounds' BIG (x := cd Try.f41 [1,1,0,1,0,1,1,1,0,1,0,0,1,0,1,0,0,0]) (by kernel_rfl) fun Q3 hQ3 => ?_)
       have hL3 : ∀ (k3 : Nat) (x3 : Int), ref2_numbers_l3 (ref2_numbers_l2 p2 k2) p2 l2 x2 k3 x3 = some r → XR Try.prog 117 0 [] (cd Try.f41 [1,1,0,1,0,1,1,1,0,1,0,0,1,0,1,0,0,0]) Q3 k3 [(1, vl eI p2), (5, .one (.sl 0 1 0 l2.length)), (8, vi x2), (9, vi x3)] [.arr 1 ((eK .u8).els l2)] := by
        intro k3
        induction k3 with
        | zero => intro x3 h; rw [ref2_numbers_l3.eq_1] at h; cases h
        | succ k3 ih3 =>
         intro x3 h
         rw [ref2_numbers_l3.eq_2] at h
         refine zq fun K24 hK24 => zq fun K25 hK25 => ?_
         have hJ1 : ∀ (x4 : Bool), ref2_numbers_j1 (ref2_numbers_l2 p2 k2) (ref2_numbers_l3 (ref2_numbers_l2 p2 k2) p2 l2 x2 k3) p2 l2 x2 x3 x4 = some r → ∀ fr1 st1, Sub 117 0 [] fr1 st1 [(1, vl eI p2), (5, .one (.sl 0 1 0 l2.length)), (8, vi x2), (9, vi x3), (78, vb x4)] [.arr 1 ((eK .u8).els l2)] → K25 fr1 st1 := by
          intro x4 h fr1 st1 hS
          unfold ref2_numbers_j1 at h
          refine hK25 _ _ (XW.sub hS ?_)
          refine zC h (fun b29 h => ?_) (fun b29 h => ?_)
          ·exact zs (hK24 _ _ (zb 8 (zr (zg [] 3 [1,5,8,9] (zd (XR.sub (zk [1,5,8,9]) (ih3 (IntKind.i64.wrap (x3 + (1 : Int))) h)))))))
          ·exact zx 7 (hQ3 _ _ _ (hJ2 x3 h _ _ (zk [1,5,8,9])))
         rcases zW h with ⟨b26, h⟩ | ⟨b26, h⟩
         ·obtain ⟨e2, a27, h⟩ := zB h
          obtain ⟨e3, a28, h⟩ := zB h
          refine zw 13 [(76, vi e3), (75, .one (.pv (.rp (eI.els p2) x2.toNat 0))), (74, vi x2), (73, vl eI p2), (72, vi e2), (71, .one (.pv (.rp (eI.els p2) x3.toNat 0))), (70, vi x3), (69, vl eI p2), (68, vb true), (67, vb (decide (x3 < (p2.length : Int)))), (66, vi (p2.length : Int)), (65, vl eI p2), (64, vi x3), (1, vl eI p2), (5, .one (.sl 0 1 0 l2.length)), (8, vi x2), (9, vi x3)] ?_ ?_
          ·refine zyv 3 [] [(66, vi ((eI.els p2).length : Int)), (65, vl eI p2), (64, vi x3), (1, vl eI p2), (5, .one (.sl 0 1 0 l2.length)), (8, vi x2), (9, vi x3)] ?_
           rw [eI.len p2]
           refine zyv 2 [] [(68, vb (decide (x3 < (p2.length : Int)))), (67, vb (decide (x3 < (p2.length : Int)))), (66, vi (p2.length : Int)), (65, vl eI p2), (64, vi x3), (1, vl eI p2), (5, .one (.sl 0 1 0 l2.length)), (8, vi x2), (9, vi x3)] ?_
           exact DX.eq (fr1 := [(68, vb true), (67, vb (decide (x3 < (p2.length : Int)))), (66, vi (p2.length : Int)), (65, vl eI p2), (64, vi x3), (1, vl eI p2), (5, .one (.sl 0 1 0 l2.length)), (8, vi x2), (9, vi x3)]) (by rw [b26]) (zyo 8 [[pi e2], [pi e3]] [0 ≤ x3 ∧ x3 < ((eI.els p2).length : Int) ∧ elemsOk 1 (eI.els p2), (eI.els p2)[x3.toNat]? = some [pi e2], 0 ≤ x2 ∧ x2 < ((eI.els p2).length : Int) ∧ elemsOk 1 (eI.els p2), (eI.els p2)[x2.toNat]? = some [pi e3]] (⟨eI.inb a27, (eI.get a27), eI.inb a28, (eI.get a28), trivial⟩) zyd)
          exact zg [] 2 [1,5,8,9,78] (zd (hJ1 (e2 == e3) h _ _ (zk [1,5,8,9,78])))
         ·refine zw 13 [(76, .tp []), (75, .tp []), (74, .tp []), (73, .tp []), (72, .tp []), (71, .tp []), (70, .tp []), (69, .tp []), (68, vb false), (67, vb (decide (x3 < (p2.length : Int)))), (66, vi (p2.length : Int)), (65, vl eI p2), (64, vi x3), (1, vl eI p2), (5, .one (.sl 0 1 0 l2.length)), (8, vi x2), (9, vi x3)] ?_ ?_
          ·refine zyv 3 [] [(66, vi ((eI.els p2).length : Int)), (65, vl eI p2), (64, vi x3), (1, vl eI p2), (5, .one (.sl 0 1 0 l2.length)), (8, vi x2), (9, vi x3)] ?_
           rw [eI.len p2]
           refine zyv 2 [] [(68, vb (decide (x3 < (p2.length : Int)))), (67, vb (decide (x3 < (p2.length : Int)))), (66, vi (p2.length : Int)), (65, vl eI p2), (64, vi x3), (1, vl eI p2), (5, .one (.sl 0 1 0 l2.length)), (8, vi x2), (9, vi x3)] ?_
           exact DX.eq (fr1 := [(68, vb false), (67, vb (decide (x3 < (p2.length : Int)))), (66, vi (p2.length : Int)), (65, vl eI p2), (64, vi x3), (1, vl eI p2), (5, .one (.sl 0 1 0 l2.length)), (8, vi x2), (9, vi x3)]) (by rw [b26]) (zyg 8 zyd)
          exact zg [] 2 [1,5,8,9,78] (zd (hJ1 false h _ _ (zk [1,5,8,9,78])))
       exact XR.sub (zk [1,5,8,9]) (hL3 BIG x2 h)
      ·exact zx 5 (hQ2 _ _ _ (hJ4 l2 h _ _ (Sub.trans (Sub.kill (fr' := [(1, vl eI p2), (5, vl (eK .u8) l2), (8, vi x2), (62, vb (decide (x2 < (p2.length : Int))))]) 0 (Nat.zero_le _) (by kernel_rfl) ⟨.one (.rfl _ rfl), .one (cf_sl (eK .u8) l2 rfl rfl rfl), .one (.rfl _ rfl), .one (.rfl _ rfl), trivial⟩) (Sub.trans (Sub.pick (fr' := [(5, vl (eK .u8) l2)]) [5] (by kernel_rfl)) (Sub.take (fr' := [(5, vl (eK .u8) l2)]) 0 (Nat.zero_le _) (by kernel_rfl) (by kernel_rfl))))))
    exact XR.sub (zk [1,5,8]) (hL2 BIG [] (0 : Int) h)
   ·refine zq fun K37 hK37 => zr (zg [] 2 [1,5,17,96] (zd (hK37 _ _ (zC h (fun b38 h => ?_) (fun b38 h => ?_)))))
    ·refine zq fun K39 hK39 => zr (zg [] 1 [1,5,10] (zd (hK39 _ _ (zq fun K40 hK40 => zr (zv [] 2 [5,10,98,99] [] [(5, .one (.pv (.s (.slice none 0 0)))), (10, vi (0 : Int)), (98, vl eI p2), (99, vi ((eI.els p2).length : Int))] [] ?_)))))
     rw [eI.len p2]
     refine zv [] 1 [5,10,98,99,100] [] [(5, .one (.pv (.s (.slice none 0 0)))), (10, vi (0 : Int)), (98, vl eI p2), (99, vi (p2.length : Int)), (100, vi (0 : Int))] [] (zd (hK40 _ _ (zb 9 (XW.sub (Sub.list (t := 5) (sz := 1) rfl) (XW.rounds' BIG (x := cd Try.f41 [1,1,0,1,0,1,1,1,1,1,0,1,1,0,0]) (by kernel_rfl) fun Q4 hQ4 => ?_)))))
     have hL4 : ∀ (k4 : Nat) (l3 : List Int) (x6 : Int) (x7 : Int), ref2_numbers_l4 p2 k4 l3 x6 x7 = some r → XR Try.prog 117 0 [] (cd Try.f41 [1,1,0,1,0,1,1,1,1,1,0,1,1,0,0]) Q4 k4 [(5, .one (.sl 0 1 0 l3.length)), (10, vi x6), (98, vl eI p2), (99, vi (p2.length : Int)), (100, vi x7)] [.arr 1 ((eK .u8).els l3)] := by
      intro k4
      induction k4 with
      | zero => intro l3 x6 x7 h; rw [ref2_numbers_l4.eq_1] at h; cases h
      | succ k4 ih4 =>
       intro l3 x6 x7 h
       rw [ref2_numbers_l4.eq_2] at h
       refine zq fun K41 hK41 => zr (zg [] 1 [5,10,98,99,100,101] (zd (hK41 _ _ (zq fun K42 hK42 => zC h (fun b43 h => ?_) (fun b43 h => ?_)))))
       ·refine zs (hK42 _ _ (zq fun K44 hK44 => zb 10 (zq fun K45 hK45 => ?_)))
        obtain ⟨e5, a46, h⟩ := zB h
        refine zr (zo [] 3 [5,10,12,98,99,100] [[pi e5]] [0 ≤ x7 ∧ x7 < ((eI.els p2).length : Int) ∧ elemsOk 1 (eI.els p2), (eI.els p2)[x7.toNat]? = some [pi e5]] (⟨eI.inb a46, (eI.get a46), trivial⟩) (zd (hK45 _ _ (zq fun K47 hK47 => ?_))))
        obtain ⟨r4, c48, h⟩ := zB h
        obtain ⟨g49, h⟩ := zG h
        refine zr (zv [] 4 [12,98,99,100,104,107] [] [(12, vi e5), (98, vl eI p2), (99, vi (p2.length : Int)), (100, vi x7), (104, .one (.sl 0 1 0 l3.length)), (107, vi (IntKind.i64.wrap (e5 - x6)))] [.arr 1 ((eK .u8).els l3)] ?_)
        refine XO.calx 61 [vi (IntKind.i64.wrap (e5 - x6))] [] [.arr 1 ((eK .u8).els r4)] [] (.one (.sl 0 1 0 r4.length)) [] [] [(108, .one (.sl 1 1 0 r4.length)), (12, vi e5), (98, vl eI p2), (99, vi (p2.length : Int)), (100, vi x7), (104, .one (.sl 0 1 0 l3.length)), (107, vi (IntKind.i64.wrap (e5 - x6)))] [.arr 1 ((eK .u8).els l3), .arr 1 ((eK .u8).els r4)] (by kernel_rfl) (c_ref2_signed _ _ c48) (by kernel_rfl) (by kernel_rfl) (by kernel_rfl) (by kernel_rfl) (by kernel_rfl) (by kernel_rfl) (by kernel_rfl) ?_
        refine XO.sub (Sub.kill (fr' := [(108, vl (eK .u8) r4), (12, vi e5), (98, vl eI p2), (99, vi (p2.length : Int)), (100, vi x7), (104, .one (.sl 0 1 0 l3.length)), (107, vi (IntKind.i64.wrap (e5 - x6)))]) 1 (Nat.zero_le _) (by kernel_rfl) ⟨.one (cf_sl (eK .u8) r4 rfl rfl rfl), .one (.rfl _ rfl), .one (.rfl _ rfl), .one (.rfl _ rfl), .one (.rfl _ rfl), .one (.rfl _ rfl), .one (.rfl _ rfl), trivial⟩) ?_
        refine zp [] 1 [12,98,99,100,109] [] [(12, vi e5), (98, vl eI p2), (99, vi (p2.length : Int)), (100, vi x7), (109, .one (.sl 0 1 0 (l3.length + ((eK .u8).els r4).length)))] [.arr 1 ((eK .u8).els l3 ++ (eK .u8).els r4), .dead] [elemsOk 1 ((eK .u8).els r4), l3.length = ((eK .u8).els l3).length, l3.length + ((eK .u8).els r4).length ≤ 4294967296] (⟨(eK .u8).ok _, ((eK .u8).len l3).symm, (by rw [(eK .u8).len]; exact g49), trivial⟩) ?_
        rw [show l3.length + ((eK .u8).els r4).length = (l3 ++ r4).length from (eK .u8).lapp _ _]
        rw [show (eK .u8).els l3 ++ (eK .u8).els r4 = (eK .u8).els (l3 ++ r4) from (eK .u8).app2 _ _]
        refine zg [] 1 [5,12,98,99,100] (zd (hK47 _ _ (zr (zg [] 2 [5,10,98,99,100] (zd (hK44 _ _ (zr ?_)))))))
        refine zv [] 2 [5,10,98,99,100] [] (qa1288 p2 l3 x7 e5 r4) [.arr 1 ((eK .u8).els (l3 ++ r4)), .dead] (zd ?_)
        exact XR.sub (Sub.trans (Sub.pick (fr' := (qa1288 p2 l3 x7 e5 r4)) [5,10,98,99,100] (by kernel_rfl)) (Sub.take (fr' := (qa1288 p2 l3 x7 e5 r4)) 1 (Nat.zero_le _) (by kernel_rfl) (by kernel_rfl))) (ih4 (l3 ++ r4) e5 (IntKind.i64.wrap (x7 + (1 : Int))) h)
       ·exact zx 9 (hQ4 _ _ _ (hJ4 l3 h _ _ (Sub.trans (Sub.kill (fr' := [(5, vl (eK .u8) l3), (10, vi x6), (98, vl eI p2), (99, vi (p2.length : Int)), (100, vi x7), (101, vb (decide (x7 < (p2.length : Int))))]) 0 (Nat.zero_le _) (by kernel_rfl) ⟨.one (cf_sl (eK .u8) l3 rfl rfl rfl), .one (.rfl _ rfl), .one (.rfl _ rfl), .one (.rfl _ rfl), .one (.rfl _ rfl), .one (.rfl _ rfl), trivial⟩) (Sub.trans (Sub.pick (fr' := [(5, vl (eK .u8) l3)]) [5] (by kernel_rfl)) (Sub.take (fr' := [(5, vl (eK .u8) l3)]) 0 (Nat.zero_le _) (by kernel_rfl) (by kernel_rfl))))))
     exact XR.sub (zk [5,10,98,99,100]) (hL4 BIG [] (0 : Int) (0 : Int) h)
    ·refine zq fun K50 hK50 => zr (zg [] 2 [1,112] (zd (hK50 _ _ (zC h (fun b51 h => ?_) (fun b51 h => ?_)))))
     ·refine zq fun K52 hK52 => ?_
      obtain ⟨r5, c53, h⟩ := zB h
      refine zr (zg [] 1 [114] (zl 63 [vl eI p2] (vl (eK .u8) r5) [(115, vl (eK .u8) r5), (114, vl eI p2)] (c_ref2_frame _ _ c53) (zg [] 1 [4] (zd (hK52 _ _ (ze ?_))))))
      obtain rfl := Option.some.inj h
      exact zf [vl (eK .u8) r5] (.one (.rfl _ rfl))
     ·refine zq fun K54 hK54 => ?_
      obtain ⟨r6, c55, h⟩ := zB h
      refine zr (zg [] 1 [1,18] (zl 64 [vl eI p2] (vl eI r6) [(19, vl eI r6), (1, vl eI p2), (18, vl eI p2)] (c_ref2_sortedInts _ _ c55) (zg [] 1 [1,13] (zd (hK54 _ _ (zq fun K56 hK56 => zr ?_))))))
      refine zg [] 1 [1,13,14] (zd (hK56 _ _ (zq fun K57 hK57 => ?_)))
      have hJ3 : ∀ (l5 : List Int), ref2_numbers_j3 (ref2_numbers k0) r6 l5 = some r → ∀ fr1 st1, Sub 117 0 [] fr1 st1 [(13, vl eI r6), (14, .one (.sl 0 1 0 l5.length))] [.arr 1 (eI.els l5)] → K57 fr1 st1 := by
       intro l5 h fr1 st1 hS
       unfold ref2_numbers_j3 at h
       refine hK57 _ _ (XW.sub hS ?_)
       refine zq fun K67 hK67 => ?_
       obtain ⟨r8, c68, h⟩ := zB h
       obtain ⟨r9, c69, h⟩ := zB h
       obtain ⟨g70, h⟩ := zG h
       refine zr (zv [] 2 [13,14,34] [] [(13, vl eI r6), (14, .one (.sl 0 1 0 l5.length)), (34, vi ((eI.els r6).length : Int))] [.arr 1 (eI.els l5)] ?_)
       rw [eI.len r6]
       refine zv [] 1 [13,14,35] [] [(13, vl eI r6), (14, .one (.sl 0 1 0 l5.length)), (35, vk .u64 (IntKind.u64.wrap (r6.length : Int)))] [.arr 1 (eI.els l5)] ?_
       refine XO.calx 62 [vk .u64 (IntKind.u64.wrap (r6.length : Int))] [] [.arr 1 ((eK .u8).els r8)] [] (.one (.sl 0 1 0 r8.length)) [] [] [(36, .one (.sl 1 1 0 r8.length)), (13, vl eI r6), (14, .one (.sl 0 1 0 l5.length)), (35, vk .u64 (IntKind.u64.wrap (r6.length : Int)))] [.arr 1 (eI.els l5), .arr 1 ((eK .u8).els r8)] (by kernel_rfl) (c_ref2_number _ _ c68) (by kernel_rfl) (by kernel_rfl) (by kernel_rfl) (by kernel_rfl) (by kernel_rfl) (by kernel_rfl) (by kernel_rfl) (zg [] 1 [14,36,37] (za (c_ref2_numbers k0 _ _ _ c69) ?_))
       refine zp [] 1 [14,39] [] [(14, .one (.sl 0 1 0 l5.length)), (39, .one (.sl 1 1 0 (r8.length + ((eK .u8).els r9).length)))] [.arr 1 (eI.els l5), .arr 1 ((eK .u8).els r8 ++ (eK .u8).els r9)] [elemsOk 1 ((eK .u8).els r9), r8.length = ((eK .u8).els r8).length, r8.length + ((eK .u8).els r9).length ≤ 4294967296] (⟨(eK .u8).ok _, ((eK .u8).len r8).symm, (by rw [(eK .u8).len]; exact g70), trivial⟩) ?_
       rw [show r8.length + ((eK .u8).els r9).length = (r8 ++ r9).length from (eK .u8).lapp _ _]
       rw [show (eK .u8).els r8 ++ (eK .u8).els r9 = (eK .u8).els (r8 ++ r9) from (eK .u8).app2 _ _]
       refine zg [] 1 [5,14] (zd (hK67 _ _ ?_))
       obtain ⟨r10, c71, h⟩ := zB h
       obtain ⟨g72, h⟩ := zG h
       refine zr (zv [] 2 [40,41] [] [(40, .one (.sl 1 1 0 ((r8 ++ r9).length))), (41, .one (.sl 0 1 0 l5.length))] [.arr 1 (eI.els l5), .arr 1 ((eK .u8).els (r8 ++ r9))] (XO.sub (Sub.kill (fr' := [(40, .one (.sl 1 1 0 ((r8 ++ r9).length))), (41, vl eI l5)]) 0 (Nat.zero_le _) (by kernel_rfl) ⟨.one (.rfl _ rfl), .one (cf_sl eI l5 rfl rfl rfl), trivial⟩) (za (c_ref2_frame _ _ c71) ?_)))
       refine zp [] 1 [43] [] [(43, .one (.sl 1 1 0 ((r8 ++ r9).length + ((eK .u8).els r10).length)))] [.dead, .arr 1 ((eK .u8).els (r8 ++ r9) ++ (eK .u8).els r10)] [elemsOk 1 ((eK .u8).els r10), (r8 ++ r9).length = ((eK .u8).els (r8 ++ r9)).length, (r8 ++ r9).length + ((eK .u8).els r10).length ≤ 4294967296] (⟨(eK .u8).ok _, ((eK .u8).len (r8 ++ r9)).symm, (by rw [(eK .u8).len]; exact g72), trivial⟩) ?_
       rw [show (r8 ++ r9).length + ((eK .u8).els r10).length = ((r8 ++ r9) ++ r10).length from (eK .u8).lapp _ _]
       rw [show (eK .u8).els (r8 ++ r9) ++ (eK .u8).els r10 = (eK .u8).els ((r8 ++ r9) ++ r10) from (eK .u8).app2 _ _]
       exact zv [] 1 [5] [] [(5, .one (.sl 1 1 0 (((r8 ++ r9) ++ r10).length)))] [.dead, .arr 1 ((eK .u8).els ((r8 ++ r9) ++ r10))] (zd (hJ4 ((r8 ++ r9) ++ r10) h _ _ (Sub.trans (Sub.kill (fr' := [(5, vl (eK .u8) ((r8 ++ r9) ++ r10))]) 1 (Nat.zero_le _) (by kernel_rfl) ⟨.one (cf_sl (eK .u8) ((r8 ++ r9) ++ r10) rfl rfl rfl), trivial⟩) (Sub.trans (Sub.pick (fr' := [(5, vl (eK .u8) ((r8 ++ r9) ++ r10))]) [5] (by kernel_rfl)) (Sub.take (fr' := [(5, vl (eK .u8) ((r8 ++ r9) ++ r10))]) 0 (Nat.zero_le _) (by kernel_rfl) (by kernel_rfl))))))
      refine zq fun K58 hK58 => zr (zv [] 2 [13,14,20,21] [] [(13, vl eI r6), (14, .one (.pv (.s (.slice none 0 0)))), (20, vl eI p2), (21, vi ((eI.els p2).length : Int))] [] ?_)
      rw [eI.len p2]
      refine zv [] 1 [13,14,20,21,22] [] [(13, vl eI r6), (14, .one (.pv (.s (.slice none 0 0)))), (20, vl eI p2), (21, vi (p2.length : Int)), (22, vi (0 : Int))] [] (zd (hK58 _ _ (zb 1 (XW.sub (Sub.list (t := 14) (sz := 1) rfl) (XW.rounds' BIG (x := cd Try.f41 [1,1,0,1,0,1,1,1,1,1,1,1,1,1,1,0,1,0,0]) (by kernel_rfl) fun Q5 hQ5 => ?_)))))
      have hL5 : ∀ (k5 : Nat) (l4 : List Int) (x8 : Int), ref2_numbers_l5 (ref2_numbers k0) p2 r6 k5 l4 x8 = some r → XR Try.prog 117 0 [] (cd Try.f41 [1,1,0,1,0,1,1,1,1,1,1,1,1,1,1,0,1,0,0]) Q5 k5 [(13, vl eI r6), (14, .one (.sl 0 1 0 l4.length)), (20, vl eI p2), (21, vi (p2.length : Int)), (22, vi x8)] [.arr 1 (eI.els l4)] := by
       intro k5
       induction k5 with
       | zero => intro l4 x8 h; rw [ref2_numbers_l5.eq_1] at h; cases h
       | succ k5 ih5 =>
        intro l4 x8 h
        rw [ref2_numbers_l5.eq_2] at h
        refine zq fun K59 hK59 => zr (zg [] 1 [13,14,20,21,22,23] (zd (hK59 _ _ (zq fun K60 hK60 => zC h (fun b61 h => ?_) (fun b61 h => ?_)))))
        ·refine zs (hK60 _ _ (zq fun K62 hK62 => zb 2 (zq fun K63 hK63 => ?_)))
         obtain ⟨e6, a64, h⟩ := zB h
         refine zr (zo [] 3 [13,14,16,20,21,22] [[pi e6]] [0 ≤ x8 ∧ x8 < ((eI.els p2).length : Int) ∧ elemsOk 1 (eI.els p2), (eI.els p2)[x8.toNat]? = some [pi e6]] (⟨eI.inb a64, (eI.get a64), trivial⟩) (zd (hK63 _ _ ?_)))
         obtain ⟨r7, c65, h⟩ := zB h
         obtain ⟨g66, h⟩ := zG h
         refine zr (zv [] 3 [13,20,21,22,26,27,28] [] [(13, vl eI r6), (20, vl eI p2), (21, vi (p2.length : Int)), (22, vi x8), (26, .one (.sl 0 1 0 l4.length)), (27, vl eI r6), (28, vi e6)] [.arr 1 (eI.els l4)] (za (c_ref2_position _ _ _ c65) (zp [] 2 [13,20,21,22,31] [] [(13, vl eI r6), (20, vl eI p2), (21, vi (p2.length : Int)), (22, vi x8), (31, .one (.sl 0 1 0 (l4.length + (eI.els [r7]).length)))] [.arr 1 (eI.els l4 ++ eI.els [r7])] [elemsOk 1 (eI.els [r7]), l4.length = (eI.els l4).length, l4.length + (eI.els [r7]).length ≤ 4294967296] (⟨eI.ok _, (eI.len l4).symm, g66, trivial⟩) ?_)))
         rw [show l4.length + (eI.els [r7]).length = (l4 ++ [r7]).length from eI.lapp _ _]
         rw [show eI.els l4 ++ eI.els [r7] = eI.els (l4 ++ [r7]) from eI.app2 _ _]
         exact zg [] 1 [13,14,20,21,22] (zd (hK62 _ _ (zr (zg [] 2 [13,14,20,21,22] (zd (XR.sub (zk [13,14,20,21,22]) (ih5 (l4 ++ [r7]) (IntKind.i64.wrap (x8 + (1 : Int))) h)))))))
        ·exact zx 1 (hQ5 _ _ _ (hJ3 l4 h _ _ (zk [13,14])))
      exact XR.sub (zk [13,14,20,21,22]) (hL5 BIG [] (0 : Int) h)

def ref2_Numbers_j1 (p1 : Int) (p2 : (List Int)) (x1 : Bool) : Option ((List Int) × Int) :=
    ift x1
      (some ([], (3 : Int)))
      (bnd (ref2_numbers BIG p1 p2) fun r2 =>
       some (r2, (0 : Int)))

def ref2_Numbers (p1 : Int) (p2 : (List Int)) : Option ((List Int) × Int) :=
    ift (decide (p1 < (0 : Int)))
      (ref2_Numbers_j1 p1 p2 true)
      (ift (decide ((4 : Int) < p1))
         (ref2_Numbers_j1 p1 p2 true)
         (bnd (ref2_inRange p2) fun r1 =>
          ref2_Numbers_j1 p1 p2 (!r1)))


theorem c_ref2_Numbers (p1 : Int) (p2 : (List Int)) (r : ((List Int) × Int)) (h : ref2_Numbers p1 p2 = some r) : PC Try.prog 22 [vi p1, vl eI p2] (.tp [vl (eK .u8) r.1, vi r.2]) := by
 unfold ref2_Numbers at h
 refine zF 20 Try.f22 (zq fun K1 hK1 => zr (zg [] 2 [0,1] (zd (hK1 _ _ (zq fun K2 hK2 => zq fun K3 hK3 => ?_)))))
 have hJ1 : ∀ (x1 : Bool), ref2_Numbers_j1 p1 p2 x1 = some r → ∀ fr1 st1, Sub 20 0 [] fr1 st1 [(0, vi p1), (1, vl eI p2), (16, vb x1)] [] → K3 fr1 st1 := by
  intro x1 h fr1 st1 hS
  unfold ref2_Numbers_j1 at h
  refine hK3 _ _ (XW.sub hS ?_)
  refine zC h (fun b7 h => ?_) (fun b7 h => ?_)
  ·refine zq fun K8 hK8 => zr (zg [] 2 [4,5] (zd (hK8 _ _ (ze ?_))))
   obtain rfl := Option.some.inj h
   exact zf [.one (.pv (.s (.slice none 0 0))), vi (3 : Int)] (.tpc (.one (.nl)) (.tpc (.one (.rfl _ rfl)) (.tp0)))
  ·refine zs (hK2 _ _ (zq fun K9 hK9 => ?_))
   obtain ⟨r2, c10, h⟩ := zB h
   refine zr (zg [] 2 [17,18] (zl 41 [vi p1, vl eI p2] (vl (eK .u8) r2) [(19, vl (eK .u8) r2), (17, vi p1), (18, vl eI p2)] (c_ref2_numbers BIG _ _ _ c10) (zg [] 2 [4,5] (zd (hK9 _ _ (ze ?_))))))
   obtain rfl := Option.some.inj h
   exact zf [vl (eK .u8) r2, vi (0 : Int)] (.tpc (.one (.rfl _ rfl)) (.tpc (.one (.rfl _ rfl)) (.tp0)))
 rcases zW h with ⟨b4, h⟩ | ⟨b4, h⟩
 ·exact zr (zg [] 3 [0,1,8] (zt 8 b4 (zv [] 8 [0,1,16] [] [(0, vi p1), (1, vl eI p2), (16, vb true)] [] (zd (hJ1 true h _ _ (zk [0,1,16]))))))
 ·rcases zW h with ⟨b5, h⟩ | ⟨b5, h⟩
  ·exact zr (zg [] 3 [0,1,8] (zt 8 b4 (zg [] 4 [0,1,12] (zt 12 b5 (zv [] 4 [0,1,16] [] [(0, vi p1), (1, vl eI p2), (16, vb true)] [] (zd (hJ1 true h _ _ (zk [0,1,16]))))))))
  ·obtain ⟨r1, c6, h⟩ := zB h
   refine zr (zg [] 3 [0,1,8] (zt 8 b4 (zg [] 4 [0,1,12] (zt 12 b5 (zv [] 1 [0,1,12,13] [] [(0, vi p1), (1, vl eI p2), (12, vb false), (13, vl eI p2)] [] (za (c_ref2_inRange _ _ c6) (zg [] 2 [0,1,16] ?_)))))))
   exact zd (hJ1 (!r1) h _ _ (zk [0,1,16]))

def column_cursor_take_j1 (p1 : Int) (p2 : GCursor) (x1 : Bool) : Option ((List Int) × GCursor) :=
    ift x1
      (some ([], (GCursor.mk p2.b true)))
      (grd (0 ≤ (0 : Int) ∧ (0 : Int) ≤ p1 ∧ p1 ≤ p1 ∧ p1 ≤ (p2.b.length : Int)) <|
       grd (0 ≤ p1 ∧ p1 ≤ (p2.b.length : Int)) <|
       some (((p2.b.drop (0 : Int).toNat).take (p1.toNat - (0 : Int).toNat)), (GCursor.mk (p2.b.drop p1.toNat) p2.bad)))

def column_cursor_take (p1 : Int) (p2 : GCursor) : Option ((List Int) × GCursor) :=
    ift p2.bad
      (column_cursor_take_j1 p1 p2 true)
      (ift (decide (p1 < (0 : Int)))
         (column_cursor_take_j1 p1 p2 true)
         (column_cursor_take_j1 p1 p2 (decide ((p2.b.length : Int) < p1))))

abbrev qa1321 (p2 : GCursor) : St := [.box [cl (eK .u8) p2.b, cb p2.bad]]

theorem c_column_cursor_take (p1 : Int) (p2 : GCursor) (r : ((List Int) × GCursor)) (h : column_cursor_take p1 p2 = some r) : MC Try.prog 118 [.one (.pt 0 0 0 0), vi p1] (qa1321 p2) (vl (eK .u8) r.1) [.box [cl (eK .u8) r.2.b, cb r.2.bad]] := by
 unfold column_cursor_take at h
 refine MC.of 1 (n := 43) (fn := Try.f118) (c := cd Try.f118 []) (by kernel_rfl) (by kernel_rfl) (by kernel_rfl) (Nat.le_of_ble_eq_true rfl) rfl (zq fun K1 hK1 => zr (zg [] 1 [0,1] (zd (hK1 _ _ (zq fun K2 hK2 => zq fun K3 hK3 => ?_)))))
 have hJ1 : ∀ (x1 : Bool), column_cursor_take_j1 p1 p2 x1 = some r → ∀ fr1 st1, Sub 43 1 [] fr1 st1 [(0, .one (.pt 0 0 0 0)), (1, vi p1), (22, vb x1)] (qa1321 p2) → K3 fr1 st1 := by
  intro x1 h fr1 st1 hS
  unfold column_cursor_take_j1 at h
  refine hK3 _ _ (XW.sub hS ?_)
  refine zC h (fun b6 h => ?_) (fun b6 h => ?_)
  ·refine zq fun K7 hK7 => zr (zg [] 4 [] (zd (hK7 _ _ (zq fun K8 hK8 => zr (zv [] 1 [4] [] [(4, .one (.pv (.s (.slice none 0 0))))] [.box [cl (eK .u8) p2.b, cb true]] ?_)))))
   refine zd (hK8 _ _ (ze ?_))
   obtain rfl := Option.some.inj h
   exact FinM.fin (.inr rfl) [] [.one (.pv (.s (.slice none 0 0)))] [] (by kernel_rfl) trivial (by kernel_rfl) (by kernel_rfl) (.one (.nl))
  ·refine zs (hK2 _ _ (zq fun K9 hK9 => ?_))
   obtain ⟨g10, h⟩ := zG h
   refine zr (zp [] 7 [0,1,32] [] [(0, .one (.pt 0 0 0 0)), (1, vi p1), (32, .one (.pv (.ro ((((eK .u8).els p2.b).drop (0 : Int).toNat).take (p1.toNat - (0 : Int).toNat)))))] [.box [cl (eK .u8) p2.b, cb p2.bad]] [(0 ≤ (0 : Int) ∧ (0 : Int) ≤ p1 ∧ p1 ≤ p1 ∧ p1 ≤ (((eK .u8).els p2.b).length : Int)) ∧ elemsOk 1 ((eK .u8).els p2.b)] (⟨(eK .u8).cutMOk g10, trivial⟩) ?_)
   rw [show (((eK .u8).els p2.b).drop (0 : Int).toNat).take (p1.toNat - (0 : Int).toNat) = (eK .u8).els ((p2.b.drop (0 : Int).toNat).take (p1.toNat - (0 : Int).toNat)) from (eK .u8).cut _ _ _]
   refine zg [] 1 [0,1,5] (zd (hK9 _ _ (zq fun K11 hK11 => ?_)))
   obtain ⟨g12, h⟩ := zG h
   refine zr (zp [] 7 [5,33,39] [] [(5, vl (eK .u8) ((p2.b.drop (0 : Int).toNat).take (p1.toNat - (0 : Int).toNat))), (33, .one (.pt 0 0 0 0)), (39, .one (.pv (.ro ((((eK .u8).els p2.b).drop p1.toNat).take (((eK .u8).els p2.b).length - p1.toNat)))))] [.box [cl (eK .u8) p2.b, cb p2.bad]] [(0 ≤ p1 ∧ p1 ≤ (((eK .u8).els p2.b).length : Int) ∧ (((eK .u8).els p2.b).length : Int) ≤ (((eK .u8).els p2.b).length : Int)) ∧ elemsOk 1 ((eK .u8).els p2.b)] (⟨(eK .u8).cutHiOk g12, trivial⟩) ?_)
   rw [show (((eK .u8).els p2.b).drop p1.toNat).take (((eK .u8).els p2.b).length - p1.toNat) = (eK .u8).els (p2.b.drop p1.toNat) from (eK .u8).cutHi _ _]
   refine zg [] 3 [5] (zd (hK11 _ _ (zq fun K13 hK13 => zr (zv [] 2 [4] [] [(4, vl (eK .u8) ((p2.b.drop (0 : Int).toNat).take (p1.toNat - (0 : Int).toNat)))] [.box [cl (eK .u8) (p2.b.drop p1.toNat), cb p2.bad]] (zd (hK13 _ _ ?_))))))
   refine ze ?_
   obtain rfl := Option.some.inj h
   exact FinM.fin (.inr rfl) [] [vl (eK .u8) ((p2.b.drop (0 : Int).toNat).take (p1.toNat - (0 : Int).toNat))] [] (by kernel_rfl) trivial (by kernel_rfl) (by kernel_rfl) (.one (.rfl _ rfl))
 rcases zW h with ⟨b4, h⟩ | ⟨b4, h⟩
 ·exact zr (zg [] 5 [0,1,10] (zt 10 b4 (zv [] 12 [0,1,22] [] [(0, .one (.pt 0 0 0 0)), (1, vi p1), (22, vb true)] (qa1321 p2) (zd (hJ1 true h _ _ (zk [0,1,22]))))))
 ·rcases zW h with ⟨b5, h⟩ | ⟨b5, h⟩
  ·exact zr (zg [] 5 [0,1,10] (zt 10 b4 (zg [] 4 [0,1,14] (zt 14 b5 (zv [] 8 [0,1,22] [] [(0, .one (.pt 0 0 0 0)), (1, vi p1), (22, vb true)] (qa1321 p2) (zd (hJ1 true h _ _ (zk [0,1,22]))))))))
  ·refine zr (zg [] 5 [0,1,10] (zt 10 b4 (zg [] 4 [0,1,14] (zt 14 b5 (zv [] 6 [0,1,14,15,20] [] [(0, .one (.pt 0 0 0 0)), (1, vi p1), (14, vb false), (15, vi p1), (20, vi (((eK .u8).els p2.b).length : Int))] [.box [cl (eK .u8) p2.b, cb p2.bad]] ?_)))))
   rw [(eK .u8).len p2.b]
   exact zg [] 2 [0,1,22] (zd (hJ1 (decide ((p2.b.length : Int) < p1)) h _ _ (zk [0,1,22])))

def column_cursor_byte (p1 : GCursor) : Option (Int × GCursor) :=
    bnd (column_cursor_take (1 : Int) p1) fun r1 =>
    ift r1.2.bad
      (some ((0 : Int), r1.2))
      (bnd (at? r1.1 (0 : Int)) fun e1 =>
       some ((IntKind.i64.wrap e1), r1.2))

abbrev qa1335 (r1 : ((List Int) × GCursor)) : St := [.box [cl (eK .u8) r1.2.b, cb r1.2.bad]]

theorem c_column_cursor_byte (p1 : GCursor) (r : (Int × GCursor)) (h : column_cursor_byte p1 = some r) : MC Try.prog 116 [.one (.pt 0 0 0 0)] [.box [cl (eK .u8) p1.b, cb p1.bad]] (vi r.1) [.box [cl (eK .u8) r.2.b, cb r.2.bad]] := by
 unfold column_cursor_byte at h
 refine MC.of 1 (n := 14) (fn := Try.f116) (c := cd Try.f116 []) (by kernel_rfl) (by kernel_rfl) (by kernel_rfl) (Nat.le_of_ble_eq_true rfl) rfl (zq fun K1 hK1 => zr (zg [] 1 [0] (zd (hK1 _ _ (zq fun K2 hK2 => ?_)))))
 obtain ⟨r1, c3, h⟩ := zB h
 refine zr (zv [] 1 [0,4] [] [(0, .one (.pt 0 0 0 0)), (4, .one (.pt 0 0 0 0))] [.box [cl (eK .u8) p1.b, cb p1.bad]] (XO.calm 118 [.one (.pt 0 0 0 0), vi (1 : Int)] [.box [cl (eK .u8) p1.b, cb p1.bad]] (qa1335 r1) (vl (eK .u8) r1.1) [0] [(5, vl (eK .u8) r1.1), (0, .one (.pt 0 0 0 0)), (4, .one (.pt 0 0 0 0))] (qa1335 r1) (by kernel_rfl) (c_column_cursor_take _ _ _ c3) (by kernel_rfl) (by kernel_rfl) (by kernel_rfl) (by kernel_rfl) (zg [] 1 [0,3] (zd (hK2 _ _ (zq fun K4 hK4 => zq fun K5 hK5 => ?_))))))
 refine zr (zg [] 4 [3,9] (zd (hK5 _ _ (zC h (fun b6 h => ?_) (fun b6 h => ?_)))))
 ·refine zq fun K7 hK7 => zr (zv [] 1 [2] [] [(2, vi (0 : Int))] (qa1335 r1) (zd (hK7 _ _ (ze ?_))))
  obtain rfl := Option.some.inj h
  exact FinM.fin (.inr rfl) [] [vi (0 : Int)] [] (by kernel_rfl) trivial (by kernel_rfl) (by kernel_rfl) (.one (.rfl _ rfl))
 ·refine zs (hK4 _ _ (zq fun K8 hK8 => ?_))
  obtain ⟨e1, a9, h⟩ := zB h
  refine zr (zp [] 5 [2] [[.s (.int .u8 e1)]] [(2, vi (IntKind.i64.wrap e1))] (qa1335 r1) [0 ≤ (0 : Int) ∧ (0 : Int) < (((eK .u8).els r1.1).length : Int) ∧ elemsOk 1 ((eK .u8).els r1.1), ((eK .u8).els r1.1)[(0 : Int).toNat]? = some [.s (.int .u8 e1)]] (⟨(eK .u8).inb a9, ((eK .u8).get a9), trivial⟩) (zd (hK8 _ _ (ze ?_))))
  obtain rfl := Option.some.inj h
  exact FinM.fin (.inr rfl) [] [vi (IntKind.i64.wrap e1)] [] (by kernel_rfl) trivial (by kernel_rfl) (by kernel_rfl) (.one (.rfl _ rfl))

def column_cursor_raw_j2 (z3 : List Int) (z4 : Bool) : Option (Int × GCursor) :=
    some ((0 : Int), (GCursor.mk z3 true))

def column_cursor_raw_j1 (rec1 : List Int → Bool → Int → Int → Option (Int × GCursor)) (x1 : Int) (x2 : Int) (r1 : (Int × GCursor)) (x3 : Bool) : Option (Int × GCursor) :=
    ift x3
      (column_cursor_raw_j2 r1.2.b r1.2.bad)
      (bnd (some (IntKind.i64.wrap (BitVec.ofInt (IntKind.i64).bits r1.1 &&& BitVec.ofInt (IntKind.i64).bits (127 : Int)).toNat)) fun y1 =>
       grd (0 ≤ x2) <|
       bnd (some (IntKind.u64.wrap ((IntKind.u64.wrap y1) * 2 ^ (min x2.toNat (IntKind.u64).bits)))) fun y2 =>
       bnd (some (IntKind.u64.wrap (BitVec.ofInt (IntKind.u64).bits x1 ||| BitVec.ofInt (IntKind.u64).bits y2).toNat)) fun y3 =>
       ift (decide (r1.1 < (128 : Int)))
         (some (y3, r1.2))
         (rec1 r1.2.b r1.2.bad y3 (IntKind.i64.wrap (x2 + (7 : Int)))))

def column_cursor_raw_l1 : Nat → List Int → Bool → Int → Int → Option (Int × GCursor)
  | 0, _, _, _, _ => none
  | k1 + 1, z1, z2, x1, x2 =>
    ift (decide (x2 < (64 : Int)))
      (bnd (column_cursor_byte (GCursor.mk z1 z2)) fun r1 =>
       ift (x2 == (63 : Int))
         (column_cursor_raw_j1 (column_cursor_raw_l1 k1) x1 x2 r1 (decide ((1 : Int) < r1.1)))
         (column_cursor_raw_j1 (column_cursor_raw_l1 k1) x1 x2 r1 false))
      (column_cursor_raw_j2 z1 z2)

def column_cursor_raw (p1 : GCursor) : Option (Int × GCursor) :=
    column_cursor_raw_l1 BIG p1.b p1.bad (0 : Int) (0 : Int)

abbrev qa1345 (r1 : (Int × GCursor)) : List CV := [cl (eK .u8) r1.2.b, cb r1.2.bad]

theorem c_column_cursor_raw (p1 : GCursor) (r : (Int × GCursor)) (h : column_cursor_raw p1 = some r) : MC Try.prog 119 [.one (.pt 0 0 0 0)] [.box [cl (eK .u8) p1.b, cb p1.bad]] (vk .u64 r.1) [.box [cl (eK .u8) r.2.b, cb r.2.bad]] := by
 unfold column_cursor_raw at h
 refine MC.of 1 (n := 31) (fn := Try.f119) (c := cd Try.f119 []) (by kernel_rfl) (by kernel_rfl) (by kernel_rfl) (Nat.le_of_ble_eq_true rfl) rfl (zq fun K1 hK1 => zr (zg [] 1 [0] (zd (hK1 _ _ (zq fun K2 hK2 => zr ?_)))))
 refine zg [] 1 [0,3] (zd (hK2 _ _ (zq fun K3 hK3 => ?_)))
 have hJ2 : ∀ (z3 : List Int) (z4 : Bool), column_cursor_raw_j2 z3 z4 = some r → ∀ fr1 st1, Sub 31 1 [] fr1 st1 [(0, .one (.pt 0 0 0 0))] [.box [cl (eK .u8) z3, cb z4]] → K3 fr1 st1 := by
  intro z3 z4 h fr1 st1 hS
  unfold column_cursor_raw_j2 at h
  refine hK3 _ _ (XW.sub hS ?_)
  refine zq fun K23 hK23 => zr (zg [] 4 [] (zd (hK23 _ _ (zq fun K24 hK24 => zr (zv [] 1 [2] [] [(2, vk .u64 (0 : Int))] [.box [cl (eK .u8) z3, cb true]] ?_)))))
  refine zd (hK24 _ _ (ze ?_))
  obtain rfl := Option.some.inj h
  exact FinM.fin (.inr rfl) [] [vk .u64 (0 : Int)] [] (by kernel_rfl) trivial (by kernel_rfl) (by kernel_rfl) (.one (.rfl _ rfl))
 refine zq fun K4 hK4 => zr (zv [] 1 [0,3,4] [] [(0, .one (.pt 0 0 0 0)), (3, vk .u64 (0 : Int)), (4, vi (0 : Int))] [.box [cl (eK .u8) p1.b, cb p1.bad]] (zd (hK4 _ _ (zb 0 (XW.rounds' BIG (x := cd Try.f119 [1,1,0,1,0,0]) (by kernel_rfl) fun Q1 hQ1 => ?_)))))
 have hL1 : ∀ (k1 : Nat) (z1 : List Int) (z2 : Bool) (x1 : Int) (x2 : Int), column_cursor_raw_l1 k1 z1 z2 x1 x2 = some r → XR Try.prog 31 1 [] (cd Try.f119 [1,1,0,1,0,0]) Q1 k1 [(0, .one (.pt 0 0 0 0)), (3, vk .u64 x1), (4, vi x2)] [.box [cl (eK .u8) z1, cb z2]] := by
  intro k1
  induction k1 with
  | zero => intro z1 z2 x1 x2 h; rw [column_cursor_raw_l1.eq_1] at h; cases h
  | succ k1 ih1 =>
   intro z1 z2 x1 x2 h
   rw [column_cursor_raw_l1.eq_2] at h
   refine zq fun K5 hK5 => zq fun K6 hK6 => zr (zg [] 2 [0,3,4,7] (zd (hK6 _ _ (zC h (fun b7 h => ?_) (fun b7 h => ?_)))))
   ·refine zs (hK5 _ _ (zq fun K8 hK8 => zb 1 (zq fun K9 hK9 => ?_)))
    obtain ⟨r1, c10, h⟩ := zB h
    refine zr (zv [] 1 [0,3,4,10] [] [(0, .one (.pt 0 0 0 0)), (3, vk .u64 x1), (4, vi x2), (10, .one (.pt 0 0 0 0))] [.box [cl (eK .u8) z1, cb z2]] (XO.calm 116 [.one (.pt 0 0 0 0)] [.box [cl (eK .u8) z1, cb z2]] [.box (qa1345 r1)] (vi r1.1) [0] [(11, vi r1.1), (0, .one (.pt 0 0 0 0)), (3, vk .u64 x1), (4, vi x2), (10, .one (.pt 0 0 0 0))] [.box (qa1345 r1)] (by kernel_rfl) (c_column_cursor_byte _ _ c10) (by kernel_rfl) (by kernel_rfl) (by kernel_rfl) (by kernel_rfl) (zg [] 1 [0,3,4,5] (zd (hK9 _ _ (zq fun K11 hK11 => zq fun K12 hK12 => ?_))))))
    have hJ1 : ∀ (x3 : Bool), column_cursor_raw_j1 (column_cursor_raw_l1 k1) x1 x2 r1 x3 = some r → ∀ fr1 st1, Sub 31 1 [] fr1 st1 [(0, .one (.pt 0 0 0 0)), (3, vk .u64 x1), (4, vi x2), (5, vi r1.1), (17, vb x3)] [.box (qa1345 r1)] → K12 fr1 st1 := by
     intro x3 h fr1 st1 hS
     unfold column_cursor_raw_j1 at h
     refine hK12 _ _ (XW.sub hS ?_)
     refine zC h (fun b14 h => ?_) (fun b14 h => ?_)
     ·exact zx 0 (hQ1 _ _ _ (hJ2 r1.2.b r1.2.bad h _ _ (zk [0])))
     ·refine zs (hK11 _ _ (zq fun K15 hK15 => ?_))
      obtain ⟨y1, hy16, h⟩ := zB h
      obtain ⟨g17, h⟩ := zG h
      obtain ⟨y2, hy18, h⟩ := zB h
      obtain ⟨y3, hy19, h⟩ := zB h
      refine zr (zv [] 3 [0,4,5,18,20] [] [(0, .one (.pt 0 0 0 0)), (4, vi x2), (5, vi r1.1), (18, vk .u64 x1), (20, vi (IntKind.i64.wrap (BitVec.ofInt (IntKind.i64).bits r1.1 &&& BitVec.ofInt (IntKind.i64).bits (127 : Int)).toNat))] [.box [cl (eK .u8) r1.2.b, cb r1.2.bad]] ?_)
      rw [show (IntKind.i64.wrap (BitVec.ofInt (IntKind.i64).bits r1.1 &&& BitVec.ofInt (IntKind.i64).bits (127 : Int)).toNat) = y1 from Option.some.inj hy16]
      refine zp [] 3 [0,4,5,18,23] [] [(0, .one (.pt 0 0 0 0)), (4, vi x2), (5, vi r1.1), (18, vk .u64 x1), (23, vk .u64 (IntKind.u64.wrap ((IntKind.u64.wrap y1) * 2 ^ (min x2.toNat (IntKind.u64).bits))))] [.box [cl (eK .u8) r1.2.b, cb r1.2.bad]] [0 ≤ x2] (⟨g17, trivial⟩) ?_
      rw [show (IntKind.u64.wrap ((IntKind.u64.wrap y1) * 2 ^ (min x2.toNat (IntKind.u64).bits))) = y2 from Option.some.inj hy18]
      refine zv [] 1 [0,4,5,24] [] [(0, .one (.pt 0 0 0 0)), (4, vi x2), (5, vi r1.1), (24, vk .u64 (IntKind.u64.wrap (BitVec.ofInt (IntKind.u64).bits x1 ||| BitVec.ofInt (IntKind.u64).bits y2).toNat))] [.box [cl (eK .u8) r1.2.b, cb r1.2.bad]] ?_
      rw [show (IntKind.u64.wrap (BitVec.ofInt (IntKind.u64).bits x1 ||| BitVec.ofInt (IntKind.u64).bits y2).toNat) = y3 from Option.some.inj hy19]
      refine zg [] 1 [0,3,4,5] (zd (hK15 _ _ (zq fun K20 hK20 => zr (zg [] 2 [0,3,4,26] (zd (hK20 _ _ ?_))))))
      refine zC h (fun b21 h => ?_) (fun b21 h => ?_)
      ·refine zq fun K22 hK22 => zr (zv [] 2 [2] [] [(2, vk .u64 y3)] [.box (qa1345 r1)] (zd (hK22 _ _ (ze (hQ1 _ _ _ ?_)))))
       obtain rfl := Option.some.inj h
       exact FinM.fin (.inr rfl) [] [vk .u64 y3] [] (by kernel_rfl) trivial (by kernel_rfl) (by kernel_rfl) (.one (.rfl _ rfl))
      ·exact zs (hK8 _ _ (zr (zg [] 3 [0,3,4] (zd (XR.sub (zk [0,3,4]) (ih1 r1.2.b r1.2.bad y3 (IntKind.i64.wrap (x2 + (7 : Int))) h))))))
    rcases zW h with ⟨b13, h⟩ | ⟨b13, h⟩
    ·exact zr (zg [] 3 [0,3,4,5,14] (zt 14 b13 (zv [] 3 [0,3,4,5,17] [] [(0, .one (.pt 0 0 0 0)), (3, vk .u64 x1), (4, vi x2), (5, vi r1.1), (17, vb (decide ((1 : Int) < r1.1)))] [.box (qa1345 r1)] (zd (hJ1 (decide ((1 : Int) < r1.1)) h _ _ (zk [0,3,4,5,17]))))))
    ·exact zr (zg [] 3 [0,3,4,5,14] (zt 14 b13 (zg [] 3 [0,3,4,5,17] (zd (hJ1 false h _ _ (zk [0,3,4,5,17]))))))
   ·exact zx 0 (hQ1 _ _ _ (hJ2 z1 z2 h _ _ (zk [0])))
 exact XR.sub (zk [0,3,4]) (hL1 BIG p1.b p1.bad (0 : Int) (0 : Int) h)

def column_cursor_number (p1 : GCursor) : Option (Int × GCursor) :=
    bnd (column_cursor_raw p1) fun r1 =>
    ift (decide ((4611686018427387904 : Int) < r1.1))
      (some ((0 : Int), (GCursor.mk r1.2.b true)))
      (some ((IntKind.i64.wrap r1.1), r1.2))


theorem c_column_cursor_number (p1 : GCursor) (r : (Int × GCursor)) (h : column_cursor_number p1 = some r) : MC Try.prog 93 [.one (.pt 0 0 0 0)] [.box [cl (eK .u8) p1.b, cb p1.bad]] (vi r.1) [.box [cl (eK .u8) r.2.b, cb r.2.bad]] := by
 unfold column_cursor_number at h
 refine MC.of 1 (n := 13) (fn := Try.f93) (c := cd Try.f93 []) (by kernel_rfl) (by kernel_rfl) (by kernel_rfl) (Nat.le_of_ble_eq_true rfl) rfl (zq fun K1 hK1 => zr (zg [] 1 [0] (zd (hK1 _ _ (zq fun K2 hK2 => ?_)))))
 obtain ⟨r1, c3, h⟩ := zB h
 refine zr (zv [] 1 [0,4] [] [(0, .one (.pt 0 0 0 0)), (4, .one (.pt 0 0 0 0))] [.box [cl (eK .u8) p1.b, cb p1.bad]] (XO.calm 119 [.one (.pt 0 0 0 0)] [.box [cl (eK .u8) p1.b, cb p1.bad]] [.box [cl (eK .u8) r1.2.b, cb r1.2.bad]] (vk .u64 r1.1) [0] [(5, vk .u64 r1.1), (0, .one (.pt 0 0 0 0)), (4, .one (.pt 0 0 0 0))] [.box [cl (eK .u8) r1.2.b, cb r1.2.bad]] (by kernel_rfl) (c_column_cursor_raw _ _ c3) (by kernel_rfl) (by kernel_rfl) (by kernel_rfl) (by kernel_rfl) (zg [] 1 [0,3] (zd (hK2 _ _ (zq fun K4 hK4 => zq fun K5 hK5 => ?_))))))
 refine zr (zg [] 2 [0,3,7] (zd (hK5 _ _ (zC h (fun b6 h => ?_) (fun b6 h => ?_)))))
 ·refine zq fun K7 hK7 => zr (zv [] 4 [] [] [] [.box [cl (eK .u8) r1.2.b, cb true]] (zd (hK7 _ _ (zq fun K8 hK8 => zr (zv [] 1 [2] [] [(2, vi (0 : Int))] [.box [cl (eK .u8) r1.2.b, cb true]] ?_)))))
  refine zd (hK8 _ _ (ze ?_))
  obtain rfl := Option.some.inj h
  exact FinM.fin (.inr rfl) [] [vi (0 : Int)] [] (by kernel_rfl) trivial (by kernel_rfl) (by kernel_rfl) (.one (.rfl _ rfl))
 ·refine zs (hK4 _ _ (zq fun K9 hK9 => zr (zv [] 3 [2] [] [(2, vi (IntKind.i64.wrap r1.1))] [.box [cl (eK .u8) r1.2.b, cb r1.2.bad]] (zd (hK9 _ _ (ze ?_))))))
  obtain rfl := Option.some.inj h
  exact FinM.fin (.inr rfl) [] [vi (IntKind.i64.wrap r1.1)] [] (by kernel_rfl) trivial (by kernel_rfl) (by kernel_rfl) (.one (.rfl _ rfl))


end Go.Proofs.Ytmaemlebpjnmoaa
