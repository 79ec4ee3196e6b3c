/- The calendar, in plain integers. What needs no program: searches. Numbers: how a number is written, by both sides. Packed numbers: the same bytes on both sides. Unpacked numbers: the same on both sides; the law of Pack and Unpack. Numbers: what is written one after the other, as differences, as runs. Packed numbers, from a list that is lent; there and back. Numbers: what is written as differences from the least one. Numbers: what is written as words and places. Numbers: the encoders of both sides are equal. Numbers: the first side's readers: they end at any bytes, and read what was written. Numbers: the first side reads what was written, and ends at any bytes. Numbers: the second side's readers: they end at any bytes, and read what was written. Numbers: the second side reads what was written, and ends at any bytes. Numbers: what both sides answer. Texts: what is written one after the other, and without what they have in common with the one before. Texts: the different ones in increasing order, on both sides. Texts: the encoders of both sides are equal. The shortest of all encodings, on both sides. Texts: the first side's readers: they read what was written, and end at any bytes. Texts: the second side's readers: they read what was written, and end at any bytes. Names, in plain terms. The fields of a type, in plain terms. The check of types and the common type, in plain terms. -/
import Derived.Lib.SlicesCompact
import Derived.Test.YtnecojeemmnnaaaGreatDoorGeB
set_option linter.unusedVariables false
set_option linter.unusedSimpArgs false
set_option linter.unnecessarySimpa false
namespace Go.SX.Cal
open Go
theorem hJ {x : Int} (h1 : -9223372036854775808 ≤ x) (h2 : x ≤ 9223372036854775807) : IntKind.i64.wrap x = x := by
 simp only [IntKind.wrap, IntKind.bits, IntKind.signed]
 simp only [Bool.true_and, decide_eq_true_eq, ge_iff_le]
 split <;> omega
def S (y : Int) : Int := 365 * y + y / 4 - y / 100
def F (r : Int) : Int := r - r / 1460 + r / 36524
def OF (y : Int) : Prop := y % 4 = 0 ∧ (y % 100 ≠ 0 ∨ y % 400 = 0)
instance (y : Int) : Decidable (OF y) := by unfold OF; infer_instance
def E (y : Int) : Int := y / 400 * 146097 + S (y % 400) - 719468
end Go.SX.Cal
namespace Go.SX.Cal
open Go Go.SX
theorem aS {β : Type} (x y : Option β) : aq true x y = x := rfl
theorem aF {β : Type} (x y : Option β) : aq false x y = y := rfl
theorem bI {β : Type} (b : Bool) (x y : Option β) : aq b x y = if b = true then x else y := by cases b <;> rfl
theorem bP : aK = 1152921504606846976 := rfl
def first (P : Nat → Bool) (i n : Nat) : Option Nat := (List.range' i (n - i)).find? P
theorem m7 {P : Nat → Bool} {i n : Nat} (h : i < n) : first P i n = if P i = true then some i else first P (i + 1) n := by
 unfold first
 rw [show n - i = (n - (i + 1)) + 1 by omega, List.range'_succ, List.find?_cons]
 cases hp : P i <;> simp [hp]
theorem ny {P : Nat → Bool} {n : Nat} : first P n n = none := by simp [first]
theorem oC {P : Nat → Bool} {i n : Nat} : first P i n = none ↔ ∀ j, i ≤ j → j < n → P j = false := by
 unfold first
 rw [List.find?_eq_none]
 constructor
 ·intro h j h1 h2
  have := h j (by rw [List.mem_range'_1]; omega)
  simpa using this
 ·intro h j hj
  rw [List.mem_range'_1] at hj
  have := h j (by omega) (by omega)
  simp [this]
theorem nf {β : Type} {f : Nat → Nat → Option β} {n : Nat} {P : Nat → Bool} {A : Nat → Option β} {B : Option β} (hstep : ∀ k i, i < n → f (k + 1) i = if P i = true then A i else f k (i + 1)) (hend : ∀ k, f (k + 1) n = B) :
  ∀ k i, i ≤ n → n - i < k → f k i = (first P i n).elim B A := by
 intro k
 induction k with
 | zero => intro i _ h; omega
 | succ k ih =>
  intro i hi hk
  by_cases h : i = n
  ·subst h
   rw [hend, ny]; rfl
  ·rw [hstep k i (by omega), m7 (by omega)]
   by_cases hp : P i = true
   ·simp [hp]
   ·simp only [hp, if_false]
    exact ih (i + 1) (by omega) (by omega)
theorem al {i n : Nat} (h : i < n) (hn : n < 1000000000) : IntKind.i64.wrap ((i : Int) + 1) = ((i + 1 : Nat) : Int) := by rw [hJ (by omega) (by omega)]; omega
theorem aH {α : Type} {xs : List α} {i : Nat} (h : i < xs.length) : at? xs (i : Int) = some xs[i] := by unfold at?; simp [h]
theorem aU {i n : Nat} (h : i < n) : decide ((i : Int) < (n : Int)) = true := by simp [h]
theorem au {α β : Type} (a : α) (f : α → Option β) : aw (some a) f = f a := rfl
end Go.SX.Cal
namespace Go.Proofs.YtnecojeemmnnaaaGreatDoor
open Go Go.SX Go.SX.Cal
theorem aE {β : Type} (x y : Option β) : aq true x y = x := rfl
theorem aj {β : Type} (x y : Option β) : aq false x y = y := rfl
theorem ab {α β : Type} (a : α) (f : α → Option β) : aw (some a) f = f a := rfl
theorem aJ {β : Type} {p : Prop} [Decidable p] {x : Option β} (h : p) : cr p x = x := if_pos h
theorem cI : aK = 1152921504606846976 := rfl
def vi (n : Nat) : List Int := if n < 128 then [(n : Int)] else ((n % 128 + 128 : Nat) : Int) :: vi (n / 128)
termination_by n
decreasing_by omega
theorem ik {n : Nat} (h : n < 128) : vi n = [(n : Int)] := by rw [vi, if_pos h]
theorem nT {n : Nat} (h : ¬ n < 128) : vi n = ((n % 128 + 128 : Nat) : Int) :: vi (n / 128) := by rw [vi, if_neg h]
theorem EC : ∀ (k n : Nat), n < 128 ^ (k + 1) → (vi n).length ≤ k + 1
 | 0, n, h => by rw [ik (by simpa using h)]; simp
 | k + 1, n, h => by
  by_cases hn : n < 128
  ·rw [ik hn]; simp
  ·rw [nT hn, List.length_cons]
   have : n / 128 < 128 ^ (k + 1) := by
    refine Nat.div_lt_of_lt_mul ?_
    rw [Nat.pow_succ] at h; omega
   have := EC k (n / 128) this
   omega
theorem Ll (x : Int) : IntKind.u8.wrap x = x % 256 := by
 unfold IntKind.wrap; simp [IntKind.bits, IntKind.signed]
theorem rA (x : Int) : IntKind.u64.wrap x = x % 18446744073709551616 := by
 unfold IntKind.wrap; simp [IntKind.bits, IntKind.signed]
theorem N8 : ∀ m, m < 256 → m ||| 128 = m % 128 + 128 := by decide +kernel
theorem Fh (n : Nat) : IntKind.u8.wrap ((BitVec.ofInt (IntKind.u8).bits (IntKind.u8.wrap (n : Int)) ||| BitVec.ofInt (IntKind.u8).bits (128 : Int)).toNat : Int) = ((n % 128 + 128 : Nat) : Int) := by
 rw [Ll (n : Int)]
 have h1 : (BitVec.ofInt (IntKind.u8).bits ((n : Int) % 256)).toNat = n % 256 := by
  show (BitVec.ofInt 8 ((n : Int) % 256)).toNat = _
  rw [BitVec.toNat_ofInt]; omega
 have h2 : (BitVec.ofInt (IntKind.u8).bits (128 : Int)).toNat = 128 := by decide
 rw [BitVec.toNat_or, h1, h2, N8 _ (by omega), Ll]
 omega
theorem Lh (n : Nat) : ((n : Int).fdiv (2 ^ (min (7 : Int).toNat (IntKind.u64).bits))) = ((n / 128 : Nat) : Int) := by
 rw [show (2 : Int) ^ (min (7 : Int).toNat (IntKind.u64).bits) = 128 from by decide, Int.fdiv_eq_ediv_of_nonneg _ (by decide)]
 omega
theorem Ga : ∀ (k f n : Nat) (b : List Int), n < 128 ^ (k + 1) → k < f → b.length + k + 1 ≤ 4294967296 → en f b (n : Int) = some ((), b ++ vi n)
 | k, 0, n, b, _, hf, _ => by omega
 | k, f + 1, n, b, hn, hf, hb => by
  rw [en]
  by_cases h : n < 128
  ·rw [decide_eq_false (by omega), aj]
   unfold lN
   rw [aJ (by omega), ik h, Ll]
   congr 4
   omega
  ·cases k with
   | zero => simp at hn; omega
   | succ k =>
    rw [decide_eq_true (by omega), aE, Fh, ab, aJ (by omega), Lh]
    have : n / 128 < 128 ^ (k + 1) := by
     refine Nat.div_lt_of_lt_mul ?_
     rw [Nat.pow_succ] at hn; omega
    rw [Ga k f (n / 128) _ this (by omega) (by simp; omega), nT h]
    simp
theorem ow {n : Nat} (hn : n < 18446744073709551616) {b : List Int} (hb : b.length ≤ 4294967000) : fb (n : Int) b = some ((), b ++ vi n) :=
 Ga 9 aK n b (by omega) (by rw [cI]; omega) (by omega)
theorem FN : ∀ (k f n : Nat) (b : List Int), n < 128 ^ (k + 1) → n < 18446744073709551616 → k < f → b.length + k + 1 ≤ 4294967296 → jy f b (n : Int) = some (b ++ vi n)
 | k, 0, n, b, _, _, hf, _ => by omega
 | k, f + 1, n, b, hn, h64, hf, hb => by
  rw [jy]
  by_cases h : n < 128
  ·rw [decide_eq_false (by omega), aj]
   unfold qt
   rw [aJ (by omega), ik h, Ll]
   congr 3
   omega
  ·cases k with
   | zero => simp at hn; omega
   | succ k =>
    rw [decide_eq_true (by omega), aE, Int.tmod_eq_emod_of_nonneg (by omega), Int.tdiv_eq_ediv_of_nonneg (by omega), Ll ((n : Int) % 128), Ll, rA, ab, aJ (by omega)]
    have : n / 128 < 128 ^ (k + 1) := by
     refine Nat.div_lt_of_lt_mul ?_
     rw [Nat.pow_succ] at hn; omega
    rw [show ((n : Int) % 128 % 256 + 128) % 256 = ((n % 128 + 128 : Nat) : Int) by omega, show (n : Int) / 128 % 18446744073709551616 = ((n / 128 : Nat) : Int) by omega]
    rw [FN k f (n / 128) _ this (by omega) (by omega) (by simp; omega), nT h]
    simp
theorem lJ {n : Nat} (hn : n < 18446744073709551616) : jj (n : Int) = some (vi n) := by
 have := FN 9 aK n [] (by omega) hn (by rw [cI]; omega) (by simp)
 rw [List.nil_append] at this
 exact this
def zz (n : Int) : Nat := if n < 0 then (-2 * n - 1).toNat else (2 * n).toNat
theorem FL {n : Int} (h : -9223372036854775808 ≤ n ∧ n ≤ 9223372036854775807) : zz n < 18446744073709551616 := by unfold zz; split <;> omega
theorem sT {n : Int} (h : -4611686018427387903 ≤ n ∧ n ≤ 4611686018427387903) : lI n = some (vi (zz n)) := by
 unfold lI zz
 by_cases hn : n < 0
 ·rw [decide_eq_true hn, aE, if_pos hn, hJ (x := -2 * n) (by omega) (by omega), hJ (x := -2 * n - 1) (by omega) (by omega), rA, ab, show (-2 * n - 1) % 18446744073709551616 = (((-2 * n - 1).toNat : Nat) : Int) by omega, lJ (by omega), ab]
 ·rw [decide_eq_false hn, aj, if_neg hn, hJ (x := 2 * n) (by omega) (by omega), rA, show (2 * n) % 18446744073709551616 = (((2 * n).toNat : Nat) : Int) by omega, lJ (by omega), ab]
theorem Cy (x : Nat) (hx : x < 18446744073709551616) : x ^^^ 18446744073709551615 = 18446744073709551615 - x := by
 have h : (BitVec.ofNat 64 x ^^^ BitVec.allOnes 64) = ~~~ BitVec.ofNat 64 x := BitVec.xor_allOnes
 have h2 := congrArg BitVec.toNat h
 rw [BitVec.toNat_xor, BitVec.toNat_not] at h2
 have e1 : (BitVec.ofNat 64 x).toNat = x := by rw [BitVec.toNat_ofNat]; exact Nat.mod_eq_of_lt hx
 have e2 : (BitVec.allOnes 64).toNat = 18446744073709551615 := by decide
 rw [e1, e2] at h2
 omega
theorem P3 {n : Int} (h : -9223372036854775808 ≤ n ∧ n ≤ 9223372036854775807) :
  IntKind.u64.wrap ((BitVec.ofInt (IntKind.u64).bits (IntKind.u64.wrap ((IntKind.u64.wrap n) * 2 ^ (min (1 : Int).toNat (IntKind.u64).bits))) ^^^ BitVec.ofInt (IntKind.u64).bits (IntKind.u64.wrap (n.fdiv (2 ^ (min (63 : Int).toNat (IntKind.i64).bits))))).toNat : Int) = ((zz n : Nat) : Int) := by
 have p1 : (2 : Int) ^ (min (1 : Int).toNat (IntKind.u64).bits) = 2 := by decide
 have p63 : (2 : Int) ^ (min (63 : Int).toNat (IntKind.i64).bits) = 9223372036854775808 := by decide
 rw [p1, p63, Int.fdiv_eq_ediv_of_nonneg _ (by decide), rA n, rA (n % 18446744073709551616 * 2), rA (n / 9223372036854775808)]
 have hz := FL h
 have toN : ∀ x : Nat, x < 18446744073709551616 → (BitVec.ofInt (IntKind.u64).bits (x : Int)).toNat = x := fun x hx => by
  show (BitVec.ofInt 64 (x : Int)).toNat = x
  rw [BitVec.toNat_ofInt]; omega
 by_cases hn : n < 0
 ·have e1 : n % 18446744073709551616 * 2 % 18446744073709551616 = (((18446744073709551616 + 2 * n) % 18446744073709551616).toNat : Int) := by omega
  have e2 : n / 9223372036854775808 % 18446744073709551616 = ((18446744073709551615 : Nat) : Int) := by omega
  rw [e1, e2, BitVec.toNat_xor, toN _ (by omega), toN _ (by omega), Cy _ (by omega), rA]
  unfold zz
  rw [if_pos hn]
  omega
 ·have e1 : n % 18446744073709551616 * 2 % 18446744073709551616 = ((2 * n).toNat : Int) := by omega
  have e2 : n / 9223372036854775808 % 18446744073709551616 = ((0 : Nat) : Int) := by omega
  rw [e1, e2, BitVec.toNat_xor, toN _ (by omega), toN _ (by omega), Nat.xor_zero, rA]
  unfold zz
  rw [if_neg hn]
  omega
theorem sY {n : Int} (h : -9223372036854775808 ≤ n ∧ n ≤ 9223372036854775807) {b : List Int} (hb : b.length ≤ 4294967000) : gp n b = some ((), b ++ vi (zz n)) := by
 unfold gp
 rw [ab, ab, P3 h, ab, ow (FL h) hb, ab]
theorem Cx {n : Int} (h : -9223372036854775808 ≤ n ∧ n ≤ 9223372036854775807) : mP n = some (vi (zz n)) := by
 unfold mP
 rw [ab, ab, P3 h, ab, ow (FL h) (by simp), ab, List.nil_append]
end Go.Proofs.YtnecojeemmnnaaaGreatDoor
namespace Go.Proofs.YtnecojeemmnnaaaGreatDoor
open Go Go.SX Go.SX.Cal
theorem xb (x : Nat) (h : x < 18446744073709551616) : (BitVec.ofInt 64 (x : Int)).toNat = x := by
 rw [BitVec.toNat_ofInt]
 have : (x : Int) % ((2 ^ 64 : Nat) : Int) = x := by omega
 rw [this]; rfl
theorem NQ (x : Nat) (hx : x < 9223372036854775808) : IntKind.i64.wrap ((BitVec.ofInt (IntKind.i64).bits (x : Int) &&& BitVec.ofInt (IntKind.i64).bits (1 : Int)).toNat : Int) = ((x % 2 : Nat) : Int) := by
 show IntKind.i64.wrap ((BitVec.ofInt 64 (x : Int) &&& BitVec.ofInt 64 ((1 : Nat) : Int)).toNat : Int) = _
 rw [BitVec.toNat_and, xb x (by omega), xb 1 (by decide)]
 have e : x &&& 1 = x % 2 := Nat.and_two_pow_sub_one_eq_mod x 1
 rw [e, hJ (by omega) (by omega)]
theorem Qy (x y : Nat) (hx : x < 9223372036854775808) (hy : y < 9223372036854775808) : IntKind.i64.wrap ((BitVec.ofInt (IntKind.i64).bits (x : Int) ||| BitVec.ofInt (IntKind.i64).bits (y : Int)).toNat : Int) = ((x ||| y : Nat) : Int) := by
 show IntKind.i64.wrap ((BitVec.ofInt 64 (x : Int) ||| BitVec.ofInt 64 (y : Int)).toNat : Int) = _
 have : x ||| y < 2 ^ 63 := Nat.or_lt_two_pow hx hy
 rw [BitVec.toNat_or, xb x (by omega), xb y (by omega), hJ (by omega) (by omega)]
theorem PG (x s : Nat) : (x : Int).fdiv (2 ^ s) = ((x / 2 ^ s : Nat) : Int) := by
 rw [Int.fdiv_eq_ediv_of_nonneg _ (Int.le_of_lt (Int.pow_pos (by decide)))]
 push_cast; rfl
theorem BB (s : Nat) (h : s < 64) : min ((s : Int)).toNat (IntKind.i64).bits = s := by
 show min ((s : Int)).toNat 64 = s
 omega
theorem HT (s : Nat) (h : s < 8) : min ((s : Int)).toNat (IntKind.u8).bits = s := by
 show min ((s : Int)).toNat 8 = s
 omega
def setb (e : Nat) (t : Nat) : Nat := e ||| 2 ^ t
theorem Ql : ∀ e : Fin 256, ∀ t : Fin 8, IntKind.u8.wrap ((BitVec.ofInt (IntKind.u8).bits (e.val : Int) ||| BitVec.ofInt (IntKind.u8).bits (IntKind.u8.wrap ((1 : Int) * 2 ^ t.val))).toNat : Int) = (setb e.val t.val : Int) := by decide +kernel
theorem O9 : ∀ e : Fin 256, ∀ t : Fin 8, e.val.testBit t.val = false → IntKind.u8.wrap ((e.val : Int) + IntKind.u8.wrap ((1 : Int) * 2 ^ t.val)) = (setb e.val t.val : Int) := by decide +kernel
theorem Ky : ∀ e : Fin 256, ∀ t : Fin 8, setb e.val t.val < 256 := by decide +kernel
theorem Py : ∀ e : Fin 256, ∀ t : Fin 8, IntKind.u8.wrap ((BitVec.ofInt (IntKind.u8).bits ((e.val : Int).fdiv (2 ^ t.val)) &&& BitVec.ofInt (IntKind.u8).bits (1 : Int)).toNat : Int) = if e.val.testBit t.val = true then 1 else 0 := by decide +kernel
theorem PJ : ∀ e : Fin 256, ∀ t : Fin 8, (IntKind.i64.wrap ((e.val : Int).fdiv (2 ^ t.val))).tmod 2 = if e.val.testBit t.val = true then 1 else 0 := by decide +kernel
theorem Oe (a b : Fin 256) (h : ∀ t : Fin 8, a.val.testBit t.val = b.val.testBit t.val) : a = b := by
 refine Fin.ext (Nat.eq_of_testBit_eq fun i => ?_)
 by_cases hi : i < 8
 ·exact h ⟨i, hi⟩
 ·have hp : 2 ^ 8 ≤ 2 ^ i := Nat.pow_le_pow_right (by decide) (by omega)
  rw [Nat.testBit_lt_two_pow (Nat.lt_of_lt_of_le a.isLt hp), Nat.testBit_lt_two_pow (Nat.lt_of_lt_of_le b.isLt hp)]
def nP (b : List Int) (p : Nat) : Bool := (b.getD (p / 8) 0).toNat.testBit (p % 8)
def gU (b : List Int) : Prop := ∀ e ∈ b, 0 ≤ e ∧ e ≤ 255
theorem rV {b : List Int} (h : gU b) {j : Nat} (hj : j < b.length) : ∃ e : Fin 256, b[j] = (e.val : Int) ∧ b.getD j 0 = (e.val : Int) := by
 have := h b[j] (List.getElem_mem hj)
 refine ⟨⟨b[j].toNat, by omega⟩, by simp only; omega, ?_⟩
 simp only [List.getD, List.getElem?_eq_getElem hj, Option.getD_some]; omega
structure zZ (src : Nat → Bool) (N : Nat) (out : List Int) (P : Nat) : Prop where
 len : out.length = N
 by8 : gU out
 bit : ∀ p, p < 8 * N → nP out p = (decide (p < P) && src p)
theorem xy (src : Nat → Bool) (N : Nat) : zZ src N (List.replicate N 0) 0 := by
 refine ⟨by simp, fun e he => by have := List.eq_of_mem_replicate he; omega, fun p hp => ?_⟩
 have : (List.replicate N (0 : Int)).getD (p / 8) 0 = 0 := by
  simp only [List.getD, List.getElem?_replicate]; split <;> rfl
 unfold nP
 rw [this]; simp
theorem y0 {src : Nat → Bool} {N : Nat} {out : List Int} {P : Nat} (h : zZ src N out P) (hs : src P = false) : zZ src N out (P + 1) := by
 refine ⟨h.len, h.by8, fun p hp => ?_⟩
 rw [h.bit p hp]
 by_cases e : p = P
 ·subst e; rw [hs]; simp
 ·have : decide (p < P + 1) = decide (p < P) := by rw [decide_eq_decide]; omega
  rw [this]
theorem BU {src : Nat → Bool} {N : Nat} {out : List Int} {P : Nat} (h : zZ src N out P) (hP : P < 8 * N) (hs : src P = true) (e : Fin 256) (he : out.getD (P / 8) 0 = (e.val : Int)) :
  zZ src N (out.set (P / 8) (setb e.val (P % 8) : Int)) (P + 1) := by
 have hlt : P / 8 < out.length := by rw [h.len]; omega
 have hm : P % 8 < 8 := Nat.mod_lt _ (by decide)
 have hsl := Ky e ⟨P % 8, hm⟩
 simp only at hsl
 refine ⟨by simpa using h.len, fun x hx => ?_, fun p hp => ?_⟩
 ·rcases List.mem_or_eq_of_mem_set hx with h1 | h1
  ·exact h.by8 x h1
  ·subst h1; omega
 ·have hb := h.bit p hp
  unfold nP at hb ⊢
  by_cases ej : p / 8 = P / 8
  ·rw [ej] at hb ⊢
   have e1 : (out.set (P / 8) (setb e.val (P % 8) : Int)).getD (P / 8) 0 = (setb e.val (P % 8) : Int) := by
    simp only [List.getD, List.getElem?_set_self hlt, Option.getD_some]
   rw [e1, Int.toNat_natCast]
   rw [he, Int.toNat_natCast] at hb
   unfold setb
   rw [Nat.testBit_or, hb, Nat.testBit_two_pow]
   by_cases ep : p = P
   ·subst ep; rw [hs]; simp
   ·have : ¬ P % 8 = p % 8 := by omega
    have e2 : decide (p < P + 1) = decide (p < P) := by rw [decide_eq_decide]; omega
    rw [e2]; simp [this]
  ·have e1 : (out.set (P / 8) (setb e.val (P % 8) : Int)).getD (p / 8) 0 = out.getD (p / 8) 0 := by
    simp only [List.getD, List.getElem?_set_ne (Ne.symm ej)]
   rw [e1, hb]
   have e2 : decide (p < P + 1) = decide (p < P) := by rw [decide_eq_decide]; omega
   rw [e2]
theorem zf {src : Nat → Bool} {N : Nat} {a b : List Int} {P : Nat} (ha : zZ src N a P) (hb : zZ src N b P) : a = b := by
 refine List.ext_getElem (by rw [ha.len, hb.len]) (fun j h1 h2 => ?_)
 obtain ⟨x, x1, x2⟩ := rV ha.by8 h1
 obtain ⟨y, y1, y2⟩ := rV hb.by8 h2
 have : x = y := by
  refine Oe x y (fun t => ?_)
  have hp : 8 * j + t.val < 8 * N := by have := ha.len; omega
  have e1 := ha.bit _ hp
  have e2 := hb.bit _ hp
  have := e1.trans e2.symm
  unfold nP at this
  rw [show (8 * j + t.val) / 8 = j by omega, show (8 * j + t.val) % 8 = t.val by omega, x2, y2, Int.toNat_natCast, Int.toNat_natCast] at this
  exact this
 rw [x1, y1, this]
def qL (w : Nat) (l : List Int) (p : Nat) : Bool := (l.getD (p / w) 0).toNat.testBit (p % w)
theorem By {w : Nat} {l : List Int} {i k : Nat} (hi : i < l.length) (hk : k < w) : qL w l (i * w + k) = l[i].toNat.testBit k := by
 unfold qL
 have e1 : (i * w + k) / w = i := by rw [Nat.mul_comm, Nat.mul_add_div (by omega), Nat.div_eq_of_lt hk]; rfl
 have e2 : (i * w + k) % w = k := by rw [Nat.mul_comm, Nat.mul_add_mod, Nat.mod_eq_of_lt hk]
 rw [e1, e2]
 simp only [List.getD, List.getElem?_eq_getElem hi, Option.getD_some]
structure su (w : Nat) (l : List Int) : Prop where
 w62 : w ≤ 62
 len : l.length ≤ 10000000
 ok : ∀ e ∈ l, 0 ≤ e ∧ e < 4611686018427387904
theorem yY {w i k : Nat} (hw : w ≤ 62) (hi : i ≤ 10000000) (hk : k ≤ 62) : IntKind.i64.wrap ((IntKind.i64.wrap ((i : Int) * (w : Int))) + (k : Int)) = ((i * w + k : Nat) : Int) := by
 have hm : i * w ≤ 10000000 * 62 := Nat.mul_le_mul hi hw
 rw [show (i : Int) * (w : Int) = ((i * w : Nat) : Int) by push_cast; rfl, hJ (x := ((i * w : Nat) : Int)) (by omega) (by omega), hJ (by omega) (by omega)]
 push_cast; rfl
theorem sN {P : Nat} (h : P < 1000000000000) : IntKind.i64.wrap (((P : Nat) : Int).tdiv 8) = ((P / 8 : Nat) : Int) := by
 rw [Int.tdiv_eq_ediv_of_nonneg (by omega), hJ (by omega) (by omega)]; omega
theorem wW {P : Nat} : ((P : Nat) : Int).tmod 8 = ((P % 8 : Nat) : Int) := by
 rw [Int.tmod_eq_emod_of_nonneg (by omega)]; omega
theorem Bc (x k : Nat) : ((x / 2 ^ k % 2 : Nat) : Int) = if x.testBit k = true then 1 else 0 := by
 rw [Nat.testBit_eq_decide_div_mod_eq]
 have := Nat.mod_two_eq_zero_or_one (x / 2 ^ k)
 by_cases h : x / 2 ^ k % 2 = 1
 ·rw [h]; simp
 ·rw [show x / 2 ^ k % 2 = 0 by omega]; simp
theorem EW {w : Nat} {l : List Int} (hF : su w l) {N : Nat} (hN : l.length * w ≤ 8 * N) (rec1 : List Int → Int → Option (List Int)) {i : Nat} (hi : i < l.length) : ∀ (m f k : Nat) (out : List Int), k + m = w → m < f → zZ (qL w l) N out (i * w + k) →
  ∃ out', fe rec1 (w : Int) (i : Int) l[i] f out (k : Int) = rec1 out' ((i + 1 : Nat) : Int) ∧ zZ (qL w l) N out' ((i + 1) * w) := by
 have hw := hF.w62
 have hlen := hF.len
 intro m
 induction m with
 | zero =>
  intro f k out hk hf hI
  obtain ⟨f, rfl⟩ : ∃ q, f = q + 1 := ⟨f - 1, by omega⟩
  rw [fe, show decide ((k : Int) < (w : Int)) = false by simp; omega, aF]
  unfold qo
  rw [al hi (by omega)]
  refine ⟨out, rfl, ?_⟩
  rw [Nat.add_mul, Nat.one_mul, show i * w + w = i * w + k by omega]
  exact hI
 | succ m ih =>
  intro f k out hk hf hI
  obtain ⟨f, rfl⟩ : ∃ q, f = q + 1 := ⟨f - 1, by omega⟩
  have he := hF.ok l[i] (List.getElem_mem hi)
  obtain ⟨x, hx⟩ : ∃ x : Nat, l[i] = (x : Int) := ⟨l[i].toNat, by omega⟩
  have hsrc := By (w := w) hi (show k < w by omega)
  have hP : i * w + k < 8 * N := by
   have : (i + 1) * w ≤ l.length * w := Nat.mul_le_mul_right _ hi
   rw [Nat.add_mul, Nat.one_mul] at this
   omega
  have hm : i * w ≤ 10000000 * 62 := Nat.mul_le_mul (by omega) hw
  rw [hx, Int.toNat_natCast] at hsrc
  have hxk : x / 2 ^ k < 9223372036854775808 := Nat.lt_of_le_of_lt (Nat.div_le_self _ _) (by omega)
  have ek : IntKind.i64.wrap ((k : Int) + 1) = ((k + 1 : Nat) : Int) := by rw [hJ (by omega) (by omega)]; omega
  rw [fe, show decide ((k : Int) < (w : Int)) = true by simp; omega, aS, ig (by omega), BB k (by omega), hx, PG, NQ _ hxk, au, Bc]
  by_cases hb : x.testBit k = true
  ·rw [if_pos hb, show ((1 : Int) == 1) = true from rfl, aS, yY hw (by omega) (by omega), sN (by omega), au, wW]
   have hj : (i * w + k) / 8 < out.length := by rw [hI.len]; omega
   obtain ⟨e, e1, e2⟩ := rV hI.by8 hj
   have hm8 : (i * w + k) % 8 < 8 := Nat.mod_lt _ (by decide)
   rw [aH hj, au, au, ig (by omega), HT _ hm8, e1, Ql e ⟨_, hm8⟩, au, Int.toNat_natCast]
   have hI' := BU hI hP (by rw [hsrc, hb]) e e2
   unfold lH
   rw [ek]
   have := ih f (k + 1) _ (by omega) (by omega) hI'
   rw [hx] at this
   exact this
  ·rw [if_neg hb, show ((0 : Int) == 1) = false from rfl, aF]
   have hI' := y0 hI (by rw [hsrc]; simpa using hb)
   unfold lH
   rw [ek]
   have := ih f (k + 1) _ (by omega) (by omega) hI'
   rw [hx] at this
   exact this
theorem DU {w : Nat} {l : List Int} (hF : su w l) {N : Nat} (hN : l.length * w ≤ 8 * N) : ∀ (m f i : Nat) (out : List Int), i + m = l.length → m < f → zZ (qL w l) N out (i * w) →
  ∃ out', dR (w : Int) l f out (i : Int) = some out' ∧ zZ (qL w l) N out' (l.length * w) := by
 have hw := hF.w62
 intro m
 induction m with
 | zero =>
  intro f i out hi hf hI
  obtain ⟨f, rfl⟩ : ∃ q, f = q + 1 := ⟨f - 1, by omega⟩
  rw [dR, show decide ((i : Int) < (l.length : Int)) = false by simp; omega, aF]
  exact ⟨out, rfl, by rw [show l.length = i by omega]; exact hI⟩
 | succ m ih =>
  intro f i out hi hf hI
  obtain ⟨f, rfl⟩ : ∃ q, f = q + 1 := ⟨f - 1, by omega⟩
  have hil : i < l.length := by omega
  obtain ⟨out1, h1, h2⟩ := EW hF hN (dR (w : Int) l f) hil w aK 0 out (by omega) (by rw [bP]; omega) (by simpa using hI)
  rw [show ((0 : Nat) : Int) = 0 from rfl] at h1
  rw [dR, aU hil, aS, aH hil, au, h1]
  exact ih f (i + 1) out1 (by omega) (by omega) h2
theorem ul {w n : Nat} (hw : w ≤ 62) (hn : n ≤ 10000000) : IntKind.i64.wrap ((IntKind.i64.wrap ((IntKind.i64.wrap ((n : Int) * (w : Int))) + (7 : Int))).tdiv (8 : Int)) = (((n * w + 7) / 8 : Nat) : Int) := by
 have := yY (w := w) (i := n) (k := 7) hw hn (by omega)
 have hm : n * w ≤ 10000000 * 62 := Nat.mul_le_mul hn hw
 rw [show ((7 : Nat) : Int) = 7 from rfl] at this
 rw [this, sN (by omega)]
theorem IP {w : Nat} {l : List Int} (hF : su w l) : ∃ out, kr (w : Int) l = some out ∧ zZ (qL w l) ((l.length * w + 7) / 8) out (l.length * w) := by
 have hw := hF.w62
 have hm : l.length * w ≤ 10000000 * 62 := Nat.mul_le_mul hF.len hw
 have hs := ul hw hF.len
 have hlen := hF.len
 unfold kr
 rw [au, hs, ig (by omega), Int.toNat_natCast]
 exact DU hF (by omega) l.length aK 0 _ (by omega) (by rw [bP]; omega) (by rw [Nat.zero_mul]; exact xy _ _)
theorem C3 {w : Nat} {l : List Int} (hF : su w l) (rec1 : List Bool → Int → Option (List Bool)) {i : Nat} (hi : i < l.length) : ∀ (m f k : Nat) (out : List Bool), k + m = w → m < f → out = (List.range (i * w + k)).map (qL w l) →
  jP rec1 (w : Int) (i : Int) f out ((l[i].toNat / 2 ^ k : Nat) : Int) (k : Int) = rec1 ((List.range ((i + 1) * w)).map (qL w l)) ((i + 1 : Nat) : Int) := by
 have hw := hF.w62
 have hlen := hF.len
 intro m
 induction m with
 | zero =>
  intro f k out hk hf hI
  obtain ⟨f, rfl⟩ : ∃ q, f = q + 1 := ⟨f - 1, by omega⟩
  rw [jP, show decide ((k : Int) < (w : Int)) = false by simp; omega, aF]
  unfold sx
  rw [al hi (by omega), hI, Nat.add_mul, Nat.one_mul, show i * w + w = i * w + k by omega]
 | succ m ih =>
  intro f k out hk hf hI
  obtain ⟨f, rfl⟩ : ∃ q, f = q + 1 := ⟨f - 1, by omega⟩
  have hsrc := By (w := w) hi (show k < w by omega)
  have hm : i * w ≤ 10000000 * 62 := Nat.mul_le_mul (by omega) hw
  have he := hF.ok l[i] (List.getElem_mem hi)
  have hlo : out.length = i * w + k := by rw [hI]; simp
  have hxk : l[i].toNat / 2 ^ k < 4611686018427387904 := Nat.lt_of_le_of_lt (Nat.div_le_self _ _) (by omega)
  have ek : IntKind.i64.wrap ((k : Int) + 1) = ((k + 1 : Nat) : Int) := by rw [hJ (by omega) (by omega)]; omega
  have eb : (((l[i].toNat / 2 ^ k : Nat) : Int).tmod 2 == 1) = qL w l (i * w + k) := by
   rw [Int.tmod_eq_emod_of_nonneg (Int.natCast_nonneg _), hsrc]
   have := Bc l[i].toNat k
   rw [show ((l[i].toNat / 2 ^ k : Nat) : Int) % 2 = ((l[i].toNat / 2 ^ k % 2 : Nat) : Int) from (Int.natCast_emod _ _).symm, this]
   cases l[i].toNat.testBit k <;> rfl
  have ed : IntKind.i64.wrap (((l[i].toNat / 2 ^ k : Nat) : Int).tdiv 2) = ((l[i].toNat / 2 ^ (k + 1) : Nat) : Int) := by
   rw [Nat.pow_succ, ← Nat.div_div_eq_div_mul]
   generalize l[i].toNat / 2 ^ k = q at *
   rw [Int.tdiv_eq_ediv_of_nonneg (by omega), hJ (by omega) (by omega)]; omega
  rw [jP, show decide ((k : Int) < (w : Int)) = true by simp; omega, aS, ig (by omega), ek, eb, ed]
  refine ih f (k + 1) _ (by omega) (by omega) ?_
  rw [hI, ← Nat.add_assoc, List.range_succ, List.map_append]; rfl
theorem DO {w : Nat} {l : List Int} (hF : su w l) : ∀ (m f i : Nat), i + m = l.length → m < f →
  fq (w : Int) l f ((List.range (i * w)).map (qL w l)) (i : Int) = some ((List.range (l.length * w)).map (qL w l)) := by
 have hw := hF.w62
 intro m
 induction m with
 | zero =>
  intro f i hi hf
  obtain ⟨f, rfl⟩ : ∃ q, f = q + 1 := ⟨f - 1, by omega⟩
  rw [fq, show decide ((i : Int) < (l.length : Int)) = false by simp; omega, aF, show l.length = i by omega]
  rfl
 | succ m ih =>
  intro f i hi hf
  obtain ⟨f, rfl⟩ : ∃ q, f = q + 1 := ⟨f - 1, by omega⟩
  have hil : i < l.length := by omega
  have he := hF.ok l[i] (List.getElem_mem hil)
  have h1 := C3 hF (fq (w : Int) l f) hil w aK 0 _ (by omega) (by rw [bP]; omega) rfl
  rw [Nat.pow_zero, Nat.div_one, show ((l[i].toNat : Nat) : Int) = l[i] by omega, show ((0 : Nat) : Int) = 0 from rfl, Nat.add_zero] at h1
  rw [fq, aU hil, aS, aH hil, au, h1]
  exact ih f (i + 1) (by omega) (by omega)
theorem D2 {src : Nat → Bool} {N T : Nat} (hT : T ≤ 8 * N) (hTb : T < 1000000000) : ∀ (m f P : Nat) (out : List Int), P + m = T → m < f → zZ src N out P →
  ∃ out', ic ((List.range T).map src) f out (P : Int) = some out' ∧ zZ src N out' T := by
 intro m
 induction m with
 | zero =>
  intro f P out hP hf hI
  obtain ⟨f, rfl⟩ : ∃ q, f = q + 1 := ⟨f - 1, by omega⟩
  rw [ic, show decide ((P : Int) < ((((List.range T).map src).length : Nat) : Int)) = false by simp; omega, aF]
  exact ⟨out, rfl, by rw [show T = P by omega]; exact hI⟩
 | succ m ih =>
  intro f P out hP hf hI
  obtain ⟨f, rfl⟩ : ∃ q, f = q + 1 := ⟨f - 1, by omega⟩
  have hlt : P < ((List.range T).map src).length := by simp; omega
  have ek : IntKind.i64.wrap ((P : Int) + 1) = ((P + 1 : Nat) : Int) := al (n := T) (by omega) (by omega)
  have hel : ((List.range T).map src)[P] = src P := by simp
  rw [ic, aU hlt, aS, aH hlt, au, hel]
  unfold pV
  rw [ek]
  cases hs : src P
  ·rw [aF]
   exact ih f (P + 1) out (by omega) (by omega) (y0 hI hs)
  ·have hj : P / 8 < out.length := by rw [hI.len]; omega
   obtain ⟨e, e1, e2⟩ := rV hI.by8 hj
   have hm8 : P % 8 < 8 := Nat.mod_lt _ (by decide)
   have hz : e.val.testBit (P % 8) = false := by
    have := hI.bit P (by omega)
    unfold nP at this
    rw [e2, Int.toNat_natCast] at this
    rw [this]; simp
   rw [aS, sN (by omega), wW, aH hj, au, ig (by omega), HT _ hm8, au, e1, O9 e ⟨_, hm8⟩ hz, Int.toNat_natCast]
   exact ih f (P + 1) _ (by omega) (by omega) (BU hI (by omega) hs e e2)
theorem NC {w : Nat} {l : List Int} (hF : su w l) : ∃ out, sa (w : Int) l = some out ∧ zZ (qL w l) ((l.length * w + 7) / 8) out (l.length * w) := by
 have hw := hF.w62
 have hm : l.length * w ≤ 10000000 * 62 := Nat.mul_le_mul hF.len hw
 have hlen := hF.len
 unfold sa xO
 have h1 := DO hF l.length aK 0 (by omega) (by rw [bP]; omega)
 rw [Nat.zero_mul] at h1
 have h1' : fq (w : Int) l aK [] 0 = some ((List.range (l.length * w)).map (qL w l)) := h1
 rw [h1', au]
 have hs : IntKind.i64.wrap ((IntKind.i64.wrap ((((List.range (l.length * w)).map (qL w l)).length : Int) + (7 : Int))).tdiv (8 : Int)) = (((l.length * w + 7) / 8 : Nat) : Int) := by
  rw [List.length_map, List.length_range, hJ (x := ((l.length * w : Nat) : Int) + 7) (by omega) (by omega), show ((l.length * w : Nat) : Int) + 7 = ((l.length * w + 7 : Nat) : Int) by omega, sN (by omega)]
 rw [hs, au, ig (by omega), Int.toNat_natCast]
 exact D2 (by omega) (by omega) (l.length * w) aK 0 _ (by omega) (by rw [bP]; omega) (xy _ _)
end Go.Proofs.YtnecojeemmnnaaaGreatDoor
namespace Go.Proofs.YtnecojeemmnnaaaGreatDoor
open Go Go.SX Go.SX.Cal
def pn (src : Nat → Bool) (base : Nat) : Nat → Nat
 | 0 => 0
 | k + 1 => pn src base k + (if src (base + k) = true then 2 ^ k else 0)
theorem BJ (src : Nat → Bool) (base : Nat) : ∀ k, pn src base k < 2 ^ k
 | 0 => by simp [pn]
 | k + 1 => by
  have := BJ src base k
  simp only [pn, Nat.pow_succ]
  split <;> omega
def wP (src : Nat → Bool) (base w : Nat) : Nat → Nat
 | 0 => 0
 | d + 1 => 2 * wP src base w d + (if src (base + (w - 1 - d)) = true then 1 else 0)
theorem E7 (src : Nat → Bool) (base w : Nat) : ∀ d, wP src base w d < 2 ^ d
 | 0 => by simp [wP]
 | d + 1 => by
  have := E7 src base w d
  simp only [wP, Nat.pow_succ]
  split <;> omega
theorem CO (src : Nat → Bool) (base w : Nat) : ∀ d, d ≤ w → pn src base (w - d) + 2 ^ (w - d) * wP src base w d = pn src base w
 | 0, _ => by simp [wP]
 | d + 1, h => by
  have ih := CO src base w d (by omega)
  have e : w - d = (w - 1 - d) + 1 := by omega
  have e2 : w - (d + 1) = w - 1 - d := by omega
  rw [e] at ih
  simp only [pn, Nat.pow_succ] at ih
  rw [e2]
  simp only [wP]
  rw [Nat.mul_add, ← Nat.mul_assoc]
  by_cases hb : src (base + (w - 1 - d)) = true
  ·rw [if_pos hb] at ih ⊢
   omega
  ·rw [if_neg hb] at ih ⊢
   omega
theorem Hh (src : Nat → Bool) (base w : Nat) : wP src base w w = pn src base w := by
 have := CO src base w w (Nat.le_refl _)
 rw [Nat.sub_self] at this
 simpa [pn] using this
theorem Cq {k : Nat} (h : k ≤ 62) : 2 ^ k ≤ 4611686018427387904 := Nat.le_trans (Nat.pow_le_pow_right (by decide) h) (by decide)
theorem Dm {k : Nat} (h : k < 62) : 2 ^ k ≤ 2305843009213693952 := Nat.le_trans (Nat.pow_le_pow_right (by decide) (show k ≤ 61 by omega)) (by decide)
structure UB (w n : Nat) (b : List Int) : Prop where
 w62 : w ≤ 62
 len : n ≤ 10000000
 by8 : gU b
 bl : b.length = (n * w + 7) / 8
theorem I1 {w n i k : Nat} (hi : i < n) (hk : k < w) : i * w + k < n * w := by
 have : (i + 1) * w ≤ n * w := Nat.mul_le_mul_right _ hi
 rw [Nat.add_mul, Nat.one_mul] at this
 omega
theorem F7 {w n : Nat} {b : List Int} (h : UB w n b) {i k : Nat} (hi : i < n) (hk : k < w) : ∃ (hj : (i * w + k) / 8 < b.length) (e : Fin 256), b[(i * w + k) / 8] = (e.val : Int) ∧ nP b (i * w + k) = e.val.testBit ((i * w + k) % 8) := by
 have hp := I1 hi hk
 have hbl := h.bl
 have hj : (i * w + k) / 8 < b.length := by omega
 obtain ⟨e, e1, e2⟩ := rV h.by8 hj
 exact ⟨hj, e, e1, by unfold nP; rw [e2, Int.toNat_natCast]⟩
theorem Hb {w n : Nat} {b : List Int} (h : UB w n b) (rec1 : List Int → Int → Option (List Int × Bool)) {i : Nat} (hi : i < n) : ∀ (m f k : Nat) (out : List Int), k + m = w → m < f → out.length = n → out[i]? = some ((pn (nP b) (i * w) k : Nat) : Int) →
  eG rec1 (w : Int) b (i : Int) f out (k : Int) = rec1 (out.set i ((pn (nP b) (i * w) w : Nat) : Int)) ((i + 1 : Nat) : Int) := by
 have hw := h.w62
 have hlen := h.len
 intro m
 induction m with
 | zero =>
  intro f k out hk hf ho hv
  obtain ⟨f, rfl⟩ : ∃ q, f = q + 1 := ⟨f - 1, by omega⟩
  rw [eG, show decide ((k : Int) < (w : Int)) = false by simp; omega, aF]
  unfold oM
  rw [al hi (by omega)]
  have hkw : k = w := by omega
  subst hkw
  have : out.set i ((pn (nP b) (i * k) k : Nat) : Int) = out := List.ext_getElem? (fun j => by
    by_cases e : i = j
    ·subst e; rw [List.getElem?_set_self (by omega)]; exact hv.symm
    ·rw [List.getElem?_set_ne e])
  rw [this]
 | succ m ih =>
  intro f k out hk hf ho hv
  obtain ⟨f, rfl⟩ : ∃ q, f = q + 1 := ⟨f - 1, by omega⟩
  have hkw : k < w := by omega
  obtain ⟨hj, e, e1, e2⟩ := F7 h hi hkw
  have hm : i * w ≤ 10000000 * 62 := Nat.mul_le_mul (by omega) hw
  have ek : IntKind.i64.wrap ((k : Int) + 1) = ((k + 1 : Nat) : Int) := by rw [hJ (by omega) (by omega)]; omega
  have hat : at? out (i : Int) = some ((pn (nP b) (i * w) k : Nat) : Int) := by unfold at?; simp [hv]
  have hm8 : (i * w + k) % 8 < 8 := Nat.mod_lt _ (by decide)
  have hvl := BJ (nP b) (i * w) k
  have hpk := Dm (show k < 62 by omega)
  rw [eG, show decide ((k : Int) < (w : Int)) = true by simp; omega, aS, hat, au, yY hw (by omega) (by omega), sN (by omega), au, aH hj, au, wW, au, ig (by omega), HT _ hm8, e1, Py e ⟨_, hm8⟩, au, ig (by omega), BB k (by omega), ek, Int.toNat_natCast]
  simp only
  have hv' : ∀ y : Nat, y = (if e.val.testBit ((i * w + k) % 8) = true then 2 ^ k else 0) → IntKind.i64.wrap ((BitVec.ofInt (IntKind.i64).bits ((pn (nP b) (i * w) k : Nat) : Int) ||| BitVec.ofInt (IntKind.i64).bits (y : Int)).toNat : Int) = ((pn (nP b) (i * w) (k + 1) : Nat) : Int) := by
   rintro y rfl
   rw [Qy _ _ (by omega) (by split <;> omega)]
   congr 1
   simp only [pn]
   rw [e2]
   split
   ·have := Nat.two_pow_add_eq_or_of_lt hvl 1
    rw [Nat.mul_one] at this
    rw [Nat.or_comm, ← this, Nat.add_comm]
   ·simp
  have fin : ∀ y : Int, y = (((if e.val.testBit ((i * w + k) % 8) = true then 2 ^ k else 0 : Nat)) : Int) → aw (some y) (fun y5 => aw (some (IntKind.i64.wrap ((BitVec.ofInt (IntKind.i64).bits ((pn (nP b) (i * w) k : Nat) : Int) ||| BitVec.ofInt (IntKind.i64).bits y5).toNat : Int))) fun y6 => eG rec1 (w : Int) b (i : Int) f (out.set i y6) ((k + 1 : Nat) : Int)) = rec1 (out.set i ((pn (nP b) (i * w) w : Nat) : Int)) ((i + 1 : Nat) : Int) := by
   rintro y rfl
   rw [au, hv' _ rfl, au, ih f (k + 1) _ (by omega) (by omega) (by simpa using ho) (by rw [List.getElem?_set_self (by omega)]), List.set_set]
  by_cases hb : e.val.testBit ((i * w + k) % 8) = true
  ·rw [if_pos hb]
   exact fin _ (by rw [if_pos hb, hJ (x := 1) (by decide) (by decide), Int.one_mul, show ((2 : Int) ^ k) = ((2 ^ k : Nat) : Int) by push_cast; rfl, hJ (by omega) (by omega)])
  ·rw [if_neg hb]
   exact fin _ (by rw [if_neg hb, hJ (x := 0) (by decide) (by decide), Int.zero_mul, hJ (by decide) (by decide)]; rfl)
def nD (w n : Nat) (b : List Int) : List Int := (List.range n).map fun i => ((pn (nP b) (i * w) w : Nat) : Int)
theorem Dd {w n : Nat} {b : List Int} {i : Nat} (hi : i < n) : ((nD w i b) ++ List.replicate (n - i) 0).set i ((pn (nP b) (i * w) w : Nat) : Int) = nD w (i + 1) b ++ List.replicate (n - (i + 1)) 0 := by
 have hl : (nD w i b).length = i := by simp [nD]
 rw [List.set_append_right _ _ (by omega), hl, Nat.sub_self, show n - i = (n - (i + 1)) + 1 by omega, List.replicate_succ, List.set_cons_zero]
 unfold nD
 rw [List.range_succ, List.map_append, List.append_assoc]; rfl
theorem GM {w n : Nat} {b : List Int} (h : UB w n b) : ∀ (m f i : Nat), i + m = n → m < f →
  cP (w : Int) (n : Int) b f (nD w i b ++ List.replicate (n - i) 0) (i : Int) = j2 (w : Int) b (nD w n b) := by
 have hw := h.w62
 intro m
 induction m with
 | zero =>
  intro f i hi hf
  obtain ⟨f, rfl⟩ : ∃ q, f = q + 1 := ⟨f - 1, by omega⟩
  have : i = n := by omega
  subst this
  rw [cP, show decide ((i : Int) < ((((i : Int)).toNat : Nat) : Int)) = false by simp, aF, Nat.sub_self]
  simp
 | succ m ih =>
  intro f i hi hf
  obtain ⟨f, rfl⟩ : ∃ q, f = q + 1 := ⟨f - 1, by omega⟩
  have hin : i < n := by omega
  have hl : (nD w i b).length = i := by simp [nD]
  rw [cP, show decide ((i : Int) < ((((n : Int)).toNat : Nat) : Int)) = true by simp; omega, aS]
  have h1 := Hb h (cP (w : Int) (n : Int) b f) hin w aK 0 (nD w i b ++ List.replicate (n - i) 0) (by omega) (by rw [bP]; omega) (by simp [hl]; omega) (by
   rw [List.getElem?_append_right (by omega), hl, Nat.sub_self, List.getElem?_replicate, if_pos (by omega)]; rfl)
  rw [show ((0 : Nat) : Int) = 0 from rfl, Dd hin] at h1
  rw [h1]
  exact ih f (i + 1) (by omega) (by omega)
theorem G2 {w n : Nat} {b : List Int} (h : UB w n b) (rec1 : List Int → Int → Option (List Int)) {i : Nat} (hi : i < n) : ∀ (m f d : Nat) (out : List Int), d + m = w → m < f → out.length = n → out[i]? = some ((wP (nP b) (i * w) w d : Nat) : Int) →
  io rec1 (w : Int) b (i : Int) f out ((m : Int) - 1) = rec1 (out.set i ((pn (nP b) (i * w) w : Nat) : Int)) ((i + 1 : Nat) : Int) := by
 have hw := h.w62
 have hlen := h.len
 intro m
 induction m with
 | zero =>
  intro f d out hd hf ho hv
  obtain ⟨f, rfl⟩ : ∃ q, f = q + 1 := ⟨f - 1, by omega⟩
  rw [io, show decide ((0 : Int) ≤ ((0 : Nat) : Int) - 1) = false from rfl, aF]
  unfold qj
  rw [al hi (by omega)]
  have hdw : d = w := by omega
  subst hdw
  rw [Hh] at hv
  have : out.set i ((pn (nP b) (i * d) d : Nat) : Int) = out := List.ext_getElem? (fun j => by
    by_cases e : i = j
    ·subst e; rw [List.getElem?_set_self (by omega)]; exact hv.symm
    ·rw [List.getElem?_set_ne e])
  rw [this]
 | succ m ih =>
  intro f d out hd hf ho hv
  obtain ⟨f, rfl⟩ : ∃ q, f = q + 1 := ⟨f - 1, by omega⟩
  have hkw : m < w := by omega
  obtain ⟨hj, e, e1, e2⟩ := F7 h hi hkw
  have hm : i * w ≤ 10000000 * 62 := Nat.mul_le_mul (by omega) hw
  have hat : at? out (i : Int) = some ((wP (nP b) (i * w) w d : Nat) : Int) := by unfold at?; simp [hv]
  have hm8 : (i * w + m) % 8 < 8 := Nat.mod_lt _ (by decide)
  have hvl := E7 (nP b) (i * w) w d
  have hpk := Dm (show d < 62 by omega)
  have es : ((m + 1 : Nat) : Int) - 1 = (m : Int) := by omega
  have hy : (if e.val.testBit ((i * w + m) % 8) = true then (1 : Int) else 0) = (((if e.val.testBit ((i * w + m) % 8) = true then 1 else 0 : Nat)) : Int) := by split <;> rfl
  rw [io, es, show decide ((0 : Int) ≤ (m : Int)) = true by simp, aS, hat, au, yY hw (by omega) (by omega), sN (by omega), au, aH hj, au, wW, au, ig (by omega), HT _ hm8, e1, PJ e ⟨_, hm8⟩, au, Int.toNat_natCast]
  simp only
  have hv' : IntKind.i64.wrap ((IntKind.i64.wrap ((2 : Int) * ((wP (nP b) (i * w) w d : Nat) : Int))) + (if e.val.testBit ((i * w + m) % 8) = true then (1 : Int) else 0)) = ((wP (nP b) (i * w) w (d + 1) : Nat) : Int) := by
   simp only [wP]
   rw [show w - 1 - d = m by omega, e2, hJ (x := 2 * ((wP (nP b) (i * w) w d : Nat) : Int)) (by omega) (by omega), hy]
   have hle : (if e.val.testBit ((i * w + m) % 8) = true then 1 else 0 : Nat) ≤ 1 := by split <;> omega
   rw [hJ (by omega) (by omega)]; push_cast; rfl
  rw [hv', hJ (by omega) (by omega), ih f (d + 1) _ (by omega) (by omega) (by simpa using ho) (by rw [List.getElem?_set_self (by omega)]), List.set_set]
theorem GF {w n : Nat} {b : List Int} (h : UB w n b) : ∀ (m f i : Nat), i + m = n → m < f →
  dO (w : Int) (n : Int) b f (nD w i b ++ List.replicate (n - i) 0) (i : Int) = some (nD w n b) := by
 have hw := h.w62
 intro m
 induction m with
 | zero =>
  intro f i hi hf
  obtain ⟨f, rfl⟩ : ∃ q, f = q + 1 := ⟨f - 1, by omega⟩
  have : i = n := by omega
  subst this
  rw [dO, show decide ((i : Int) < ((((i : Int)).toNat : Nat) : Int)) = false by simp, aF, Nat.sub_self]
  unfold qF
  simp
 | succ m ih =>
  intro f i hi hf
  obtain ⟨f, rfl⟩ : ∃ q, f = q + 1 := ⟨f - 1, by omega⟩
  have hin : i < n := by omega
  have hl : (nD w i b).length = i := by simp [nD]
  rw [dO, show decide ((i : Int) < ((((n : Int)).toNat : Nat) : Int)) = true by simp; omega, aS, hJ (by omega) (by omega)]
  have h1 := G2 h (dO (w : Int) (n : Int) b f) hin w aK 0 (nD w i b ++ List.replicate (n - i) 0) (by omega) (by rw [bP]; omega) (by simp [hl]; omega) (by
   rw [List.getElem?_append_right (by omega), hl, Nat.sub_self, List.getElem?_replicate, if_pos (by omega)]; rfl)
  rw [Dd hin] at h1
  rw [h1]
  exact ih f (i + 1) (by omega) (by omega)
theorem GL {w n : Nat} {b : List Int} (h : UB w n b) : su w (nD w n b) := by
 refine ⟨h.w62, by simp [nD]; exact h.len, fun e he => ?_⟩
 simp only [nD, List.mem_map] at he
 obtain ⟨i, _, rfl⟩ := he
 have := BJ (nP b) (i * w) w
 have := Cq h.w62
 omega
def sC (w : Nat) (l : List Int) (i : Nat) : Bool := decide (l.getD i 0 < 0) || decide ((2 ^ w : Nat) ≤ l.getD i 0)
theorem Bs {w : Nat} {l : List Int} {i : Nat} (hi : i < l.length) : sC w l i = (decide (l[i] < 0) || decide (((2 ^ w : Nat) : Int) ≤ l[i])) := by
 unfold sC; simp [List.getD, List.getElem?_eq_getElem hi]
theorem Oo {w : Nat} (hw : w ≤ 62) : IntKind.i64.wrap ((1 : Int) * 2 ^ (min ((w : Int)).toNat (IntKind.i64).bits)) = ((2 ^ w : Nat) : Int) := by
 have := Cq hw
 rw [BB w (by omega), Int.one_mul, show ((2 : Int) ^ w) = ((2 ^ w : Nat) : Int) by push_cast; rfl]
 generalize 2 ^ w = q at *
 rw [hJ (by omega) (by omega)]
theorem JX {w : Nat} (hw : w ≤ 62) (e : Int) : mX e (w : Int) = some (decide (e < 0) || decide (((2 ^ w : Nat) : Int) ≤ e)) := by
 unfold mX kw
 by_cases h : e < 0
 ·simp [h, aq]
 ·rw [show decide (e < 0) = false by simpa using h, aF, ig (by omega), Oo hw, au, Bool.false_or]
theorem Db {w : Nat} (hw : w ≤ 62) {l : List Int} (hl : l.length < 1000000000) : bA l (w : Int) = some (first (sC w l) 0 l.length).isSome := by
 unfold bA dQ
 have h := nf (f := fun k i => ax l (w : Int) k (i : Int)) (n := l.length) (P := sC w l) (A := fun i => some (i : Int)) (B := some (-1))
  (fun k i hi => by
   show ax l (w : Int) (k + 1) (i : Int) = _
   rw [ax, aU hi, aS, aH hi, au, JX hw, au, Bs hi, al hi hl, bI])
  (fun k => by
   show ax l (w : Int) (k + 1) (l.length : Int) = _
   rw [ax, show decide ((l.length : Int) < (l.length : Int)) = false by simp, aF]; rfl)
  aK 0 (by omega) (by rw [bP]; omega)
 have h' : ax l (w : Int) aK 0 = (first (sC w l) 0 l.length).elim (some (-1)) (fun i => some (i : Int)) := h
 rw [h']
 cases first (sC w l) 0 l.length with
 | none => rfl
 | some i => simp [Option.elim, au]
theorem KL {w : Nat} (hw : w ≤ 62) {l : List Int} (hl : l.length < 1000000000) : rL (w : Int) l = some (first (sC w l) 0 l.length).isNone := by
 unfold rL
 have h := nf (f := fun k i => eC (w : Int) l k (i : Int)) (n := l.length) (P := sC w l) (A := fun i => some false) (B := some true)
  (fun k i hi => by
   show eC (w : Int) l (k + 1) (i : Int) = _
   rw [eC, aU hi, aS, aH hi, au, Bs hi]
   unfold pR
   rw [al hi hl]
   by_cases h : l[i] < 0
   ·simp [h, aq]
   ·rw [show decide (l[i] < 0) = false by simpa using h, aF, ig (by omega), Oo hw, au, Bool.false_or, bI])
  (fun k => by
   show eC (w : Int) l (k + 1) (l.length : Int) = _
   rw [eC, show decide ((l.length : Int) < (l.length : Int)) = false by simp, aF]; rfl)
  aK 0 (by omega) (by rw [bP]; omega)
 have h' : eC (w : Int) l aK 0 = (first (sC w l) 0 l.length).elim (some true) (fun i => some false) := h
 rw [h']
 cases first (sC w l) 0 l.length with
 | none => rfl
 | some i => rfl
end Go.Proofs.YtnecojeemmnnaaaGreatDoor
namespace Go.Proofs.YtnecojeemmnnaaaGreatDoor
open Go Go.SX Go.SX.Cal
def sg (n : Int) : List Int := vi (zz n)
theorem pC {n : Int} (h : -4611686018427387903 ≤ n ∧ n ≤ 4611686018427387903) : (sg n).length ≤ 10 := by
 have : zz n < 128 ^ 10 := Nat.lt_trans (FL (by omega)) (by decide)
 exact EC 9 _ this
theorem gQ {n : Nat} (h : n < 18446744073709551616) : (vi n).length ≤ 10 := EC 9 n (Nat.lt_trans h (by decide))
def np (l : List Int) : Prop := ∀ x ∈ l, -2000000000000000000 ≤ x ∧ x ≤ 2000000000000000000
theorem np.get {l : List Int} (h : np l) {i : Nat} (hi : i < l.length) : -2000000000000000000 ≤ l[i] ∧ l[i] ≤ 2000000000000000000 := h _ (List.getElem_mem hi)
def eP (l : List Int) : List Int := l.flatMap sg
theorem ui (n : Int) (t : List Int) : eP (n :: t) = sg n ++ eP t := by simp [eP]
theorem jA {l : List Int} {i : Nat} (hi : i < l.length) : l.drop i = l[i] :: l.drop (i + 1) := List.drop_eq_getElem_cons hi
theorem bL {i n : Nat} (h : ¬ i < n) : decide ((i : Int) < (n : Int)) = false := by simp; omega
theorem aL {m f : Nat} (h : m < f) : ∃ q, f = q + 1 := ⟨f - 1, by omega⟩
theorem KN {l : List Int} (hl : l.length ≤ 10000000) (hr : np l) : ∀ (m f i : Nat) (b : List Int), i + m = l.length → m < f → b.length + 10 * m ≤ 4000000000 →
  bh l l f b (i : Int) = some (b ++ eP (l.drop i)) := by
 intro m
 induction m with
 | zero =>
  intro f i b hi hf hb
  obtain ⟨f, rfl⟩ := aL hf
  rw [bh, bL (by omega), aj, List.drop_of_length_le (by omega)]
  simp [fx, eP]
 | succ m ih =>
  intro f i b hi hf hb
  obtain ⟨f, rfl⟩ := aL hf
  have hil : i < l.length := by omega
  have hx := hr.get hil
  have h10 := pC (n := l[i]) (by omega)
  rw [bh, aU hil, aE]
  unfold nm
  rw [aH hil, ab, sY (by omega) (by omega), ab, ab, al hil (by omega)]
  rw [ih f (i + 1) _ (by omega) (by omega) (by rw [List.length_append]; unfold sg at h10; omega), jA hil, ui, List.append_assoc]; rfl
theorem Kk {l : List Int} (hl : l.length ≤ 10000000) (hr : np l) : ∀ (m f i : Nat) (b : List Int), i + m = l.length → m < f → b.length + 10 * m ≤ 4000000000 →
  gH l f b (i : Int) = some (b ++ eP (l.drop i)) := by
 intro m
 induction m with
 | zero =>
  intro f i b hi hf hb
  obtain ⟨f, rfl⟩ := aL hf
  rw [gH, bL (by omega), aj, List.drop_of_length_le (by omega)]
  simp [fm, eP]
 | succ m ih =>
  intro f i b hi hf hb
  obtain ⟨f, rfl⟩ := aL hf
  have hil : i < l.length := by omega
  have hx := hr.get hil
  have h10 := pC (n := l[i]) (by omega)
  unfold sg at h10
  rw [gH, aU hil, aE, aH hil, ab, sT (by omega), ab, aJ (by omega), al hil (by omega)]
  rw [ih f (i + 1) _ (by omega) (by omega) (by rw [List.length_append]; omega), jA hil, ui, List.append_assoc]; rfl
def eD : Int → List Int → List Int
 | _, [] => []
 | p, n :: t => sg (n - p) ++ eD n t
def pv (l : List Int) (i : Nat) : Int := if i = 0 then 0 else l.getD (i - 1) 0
theorem KJ {l : List Int} {i : Nat} (hi : i < l.length) : pv l (i + 1) = l[i] := by simp [pv, List.getD, hi]
theorem Kv {l : List Int} (hl : l.length ≤ 10000000) (hr : np l) : ∀ (m f i : Nat) (b : List Int), i + m = l.length → m < f → b.length + 10 * m ≤ 4000000000 →
  bu l l f b (i : Int) = some (b ++ eD (pv l i) (l.drop i)) := by
 intro m
 induction m with
 | zero =>
  intro f i b hi hf hb
  obtain ⟨f, rfl⟩ := aL hf
  rw [bu, bL (by omega), aj, List.drop_of_length_le (by omega)]
  simp [gq, eD]
 | succ m ih =>
  intro f i b hi hf hb
  obtain ⟨f, rfl⟩ := aL hf
  have hil : i < l.length := by omega
  have hx := hr.get hil
  have step : lX (i : Int) l b = some ((), b ++ sg (l[i] - pv l i)) := by
   unfold lX
   by_cases h0 : i = 0
   ·subst h0
    rw [show (((0 : Nat) : Int) == 0) = true from rfl, aE, show (0 : Int) = ((0 : Nat) : Int) from rfl, aH hil, ab, sY (by omega) (by omega), ab]
    simp [pv, sg]
   ·have hi1 : i - 1 < l.length := by omega
    have hy := hr.get hi1
    rw [show (((i : Nat) : Int) == 0) = false by simp; omega, aj, aH hil, ab, hJ (x := (i : Int) - 1) (by omega) (by omega), show (i : Int) - 1 = ((i - 1 : Nat) : Int) by omega, aH hi1, ab, hJ (x := l[i] - l[i - 1]) (by omega) (by omega),
     sY (by omega) (by omega), ab]
    simp [pv, h0, sg, List.getD, hi1]
  have hpv : -2000000000000000000 ≤ pv l i ∧ pv l i ≤ 2000000000000000000 := by
   by_cases h0 : i = 0
   ·subst h0; simp [pv]
   ·have hi1 : i - 1 < l.length := by omega
    have hy := hr.get hi1
    simp only [pv, h0, if_false, List.getD, List.getElem?_eq_getElem hi1, Option.getD_some]
    exact hy
  have h10 := pC (n := l[i] - pv l i) (by omega)
  rw [bu, aU hil, aE, step, ab, al hil (by omega)]
  rw [ih f (i + 1) _ (by omega) (by omega) (by rw [List.length_append]; omega), jA hil, KJ hil, List.append_assoc]; rfl
theorem F9 {l : List Int} (hl : l.length ≤ 10000000) (hr : np l) : ∀ (m f i : Nat) (b : List Int) (p : Int), i + m = l.length → m < f → b.length + 10 * m ≤ 4000000000 → -2000000000000000000 ≤ p ∧ p ≤ 2000000000000000000 →
  gF l f b p (i : Int) = some (b ++ eD p (l.drop i)) := by
 intro m
 induction m with
 | zero =>
  intro f i b p hi hf hb hp
  obtain ⟨f, rfl⟩ := aL hf
  rw [gF, bL (by omega), aj, List.drop_of_length_le (by omega)]
  simp [fm, eD]
 | succ m ih =>
  intro f i b p hi hf hb hp
  obtain ⟨f, rfl⟩ := aL hf
  have hil : i < l.length := by omega
  have hx := hr.get hil
  have h10 := pC (n := l[i] - p) (by omega)
  unfold sg at h10
  rw [gF, aU hil, aE, aH hil, ab, hJ (x := l[i] - p) (by omega) (by omega), sT (by omega), ab, aJ (by omega), al hil (by omega)]
  rw [ih f (i + 1) _ _ (by omega) (by omega) (by rw [List.length_append]; omega) hx, jA hil, List.append_assoc]; rfl
def eR : List Int → List Int
 | [] => []
 | n :: t => vi (1 + (t.takeWhile (· == n)).length) ++ sg n ++ eR (t.dropWhile (· == n))
termination_by l => l.length
decreasing_by
 have := (List.dropWhile_sublist (fun x => x == n) (l := t)).length_le
 simp; omega
theorem u5 (n : Int) (t : List Int) : eR (n :: t) = vi (1 + (t.takeWhile (· == n)).length) ++ sg n ++ eR (t.dropWhile (· == n)) := by rw [eR]
theorem BV (p : Int → Bool) : ∀ l : List Int, l.drop (l.takeWhile p).length = l.dropWhile p
 | [] => rfl
 | x :: t => by
  cases h : p x with
  | true => simp [List.takeWhile_cons, List.dropWhile_cons, h, BV p t]
  | false => simp [List.takeWhile_cons, List.dropWhile_cons, h]
theorem Fp (p : Int → Bool) (l : List Int) : (l.takeWhile p).length ≤ l.length := by
 induction l with
 | nil => simp
 | cons x t ih =>
  cases h : p x with
  | true => simp [List.takeWhile_cons, h]; exact ih
  | false => simp [List.takeWhile_cons, h]
theorem NN {l : List Int} (hl : l.length ≤ 10000000) (rec1 : List Int → Int → Option (List Int)) (b : List Int) {i : Nat} (hi : i < l.length) : ∀ (m f j : Nat), j + m = l.length → m < f →
  fh rec1 l b (i : Int) f (j : Int) = nH rec1 l b (i : Int) ((j + ((l.drop j).takeWhile (· == l[i])).length : Nat) : Int) := by
 intro m
 induction m with
 | zero =>
  intro f j hj hf
  obtain ⟨f, rfl⟩ := aL hf
  rw [fh, bL (by omega), aj, List.drop_of_length_le (by omega)]
  simp [lT, aj]
 | succ m ih =>
  intro f j hj hf
  obtain ⟨f, rfl⟩ := aL hf
  have hjl : j < l.length := by omega
  rw [fh, aU hjl, aE, aH hjl, ab, aH hi, ab, jA hjl]
  unfold lT
  by_cases h : l[j] = l[i]
  ·rw [show (l[j] == l[i]) = true by simp [h], aE, al hjl (by omega), ih f (j + 1) (by omega) (by omega), List.takeWhile_cons, show (l[j] == l[i]) = true by simp [h], if_pos rfl, List.length_cons, show j + 1 + ((l.drop (j + 1)).takeWhile (· == l[i])).length = j + (((l.drop (j + 1)).takeWhile (· == l[i])).length + 1) by omega]
  ·rw [show (l[j] == l[i]) = false by simp [h], aj, List.takeWhile_cons, show (l[j] == l[i]) = false by simp [h], if_neg (by simp), List.length_nil, Nat.add_zero]
theorem MF {l : List Int} (hl : l.length ≤ 10000000) (hr : np l) : ∀ (m f i : Nat) (b : List Int), i + m = l.length → m < f → b.length + 20 * m ≤ 4000000000 →
  dM l f b (i : Int) = some (b ++ eR (l.drop i)) := by
 intro m
 induction m using Nat.strongRecOn with
 | ind m ih =>
  intro f i b hi hf hb
  obtain ⟨f, rfl⟩ := aL hf
  by_cases hil : i < l.length
  ·have hx := hr.get hil
   have h10 := pC (n := l[i]) (by omega)
   have htw := Fp (· == l[i]) (l.drop (i + 1))
   rw [List.length_drop] at htw
   have hdw := BV (· == l[i]) (l.drop (i + 1))
   rw [dM, aU hil, aE, NN hl _ b hil m aK i hi (by rw [cI]; omega), jA hil, List.takeWhile_cons, show (l[i] == l[i]) = true by simp, if_pos rfl, List.length_cons, u5]
   generalize hT : ((l.drop (i + 1)).takeWhile (· == l[i])).length = T at *
   rw [List.drop_drop] at hdw
   have hv := gQ (n := 1 + T) (by omega)
   unfold nH
   rw [hJ (x := ((i + (T + 1) : Nat) : Int) - (i : Int)) (by omega) (by omega), rA, show (((i + (T + 1) : Nat) : Int) - (i : Int)) % 18446744073709551616 = ((1 + T : Nat) : Int) by omega, ow (by omega) (by omega), ab, aH hil, ab,
    sY (by omega) (by rw [List.length_append]; omega), ab]
   rw [ih (m - (T + 1)) (by omega) f (i + (T + 1)) _ (by omega) (by omega) (by rw [List.length_append, List.length_append]; unfold sg at h10; omega), ← hdw, show i + 1 + T = i + (T + 1) by omega]
   simp only [List.append_assoc]; rfl
  ·rw [dM, bL hil, aj, List.drop_of_length_le (by omega)]
   simp [p8, eR]
theorem N1 {l : List Int} (hl : l.length ≤ 10000000) (rec2 : List Int → Int → Option (List Int)) (b : List Int) {i : Nat} (hi : i < l.length) : ∀ (m f j : Nat), j + m = l.length → m < f →
  er rec2 l b (i : Int) f (j : Int) = mK rec2 l b (i : Int) ((j + ((l.drop j).takeWhile (· == l[i])).length : Nat) : Int) := by
 intro m
 induction m with
 | zero =>
  intro f j hj hf
  obtain ⟨f, rfl⟩ := aL hf
  rw [er, bL (by omega), aj, List.drop_of_length_le (by omega)]
  simp [kZ, aj]
 | succ m ih =>
  intro f j hj hf
  obtain ⟨f, rfl⟩ := aL hf
  have hjl : j < l.length := by omega
  rw [er, aU hjl, aE, aH hjl, ab, aH hi, ab, jA hjl]
  unfold kZ
  by_cases h : l[j] = l[i]
  ·rw [show (l[j] == l[i]) = true by simp [h], aE, al hjl (by omega), ih f (j + 1) (by omega) (by omega), List.takeWhile_cons, show (l[j] == l[i]) = true by simp [h], if_pos rfl, List.length_cons, show j + 1 + ((l.drop (j + 1)).takeWhile (· == l[i])).length = j + (((l.drop (j + 1)).takeWhile (· == l[i])).length + 1) by omega]
  ·rw [show (l[j] == l[i]) = false by simp [h], aj, List.takeWhile_cons, show (l[j] == l[i]) = false by simp [h], if_neg (by simp), List.length_nil, Nat.add_zero]
theorem L1 {l : List Int} (hl : l.length ≤ 10000000) (hr : np l) : ∀ (m f i : Nat) (b : List Int), i + m = l.length → m < f → b.length + 20 * m ≤ 4000000000 →
  dg l f b (i : Int) = some (b ++ eR (l.drop i)) := by
 intro m
 induction m using Nat.strongRecOn with
 | ind m ih =>
  intro f i b hi hf hb
  obtain ⟨f, rfl⟩ := aL hf
  by_cases hil : i < l.length
  ·have hx := hr.get hil
   have h10 := pC (n := l[i]) (by omega)
   unfold sg at h10
   have htw := Fp (· == l[i]) (l.drop (i + 1))
   rw [List.length_drop] at htw
   have hdw := BV (· == l[i]) (l.drop (i + 1))
   rw [dg, aU hil, aE, N1 hl _ b hil m aK i hi (by rw [cI]; omega), jA hil, List.takeWhile_cons, show (l[i] == l[i]) = true by simp, if_pos rfl, List.length_cons, u5]
   generalize hT : ((l.drop (i + 1)).takeWhile (· == l[i])).length = T at *
   rw [List.drop_drop] at hdw
   have hv := gQ (n := 1 + T) (by omega)
   unfold mK
   rw [hJ (x := ((i + (T + 1) : Nat) : Int) - (i : Int)) (by omega) (by omega), rA, show (((i + (T + 1) : Nat) : Int) - (i : Int)) % 18446744073709551616 = ((1 + T : Nat) : Int) by omega, lJ (by omega), ab, aJ (by omega), aH hil, ab,
    sT (by omega), ab, aJ (by rw [List.length_append]; omega)]
   rw [ih (m - (T + 1)) (by omega) f (i + (T + 1)) _ (by omega) (by omega) (by rw [List.length_append, List.length_append]; omega), ← hdw, show i + 1 + T = i + (T + 1) by omega]
   simp only [List.append_assoc]; rfl
  ·rw [dg, bL hil, aj, List.drop_of_length_le (by omega)]
   simp [fm, eR]
end Go.Proofs.YtnecojeemmnnaaaGreatDoor
namespace Go.Proofs.YtnecojeemmnnaaaGreatDoor
open Go Go.SX Go.SX.Cal
theorem DP {w : Nat} {l : List Int} (hF : su w l) {N : Nat} (hN : l.length * w ≤ 8 * N) (rec1 : List Int → Int → Option (List Int × List Int)) {i : Nat} (hi : i < l.length) : ∀ (m f k : Nat) (out : List Int), k + m = w → m < f → zZ (qL w l) N out (i * w + k) →
  ∃ out', dS rec1 (w : Int) (i : Int) l[i] f out (k : Int) = rec1 out' ((i + 1 : Nat) : Int) ∧ zZ (qL w l) N out' ((i + 1) * w) := by
 have hw := hF.w62
 have hlen := hF.len
 intro m
 induction m with
 | zero =>
  intro f k out hk hf hI
  obtain ⟨f, rfl⟩ : ∃ q, f = q + 1 := ⟨f - 1, by omega⟩
  rw [dS, show decide ((k : Int) < (w : Int)) = false by simp; omega, aF]
  unfold oN
  rw [al hi (by omega)]
  refine ⟨out, rfl, ?_⟩
  rw [Nat.add_mul, Nat.one_mul, show i * w + w = i * w + k by omega]
  exact hI
 | succ m ih =>
  intro f k out hk hf hI
  obtain ⟨f, rfl⟩ : ∃ q, f = q + 1 := ⟨f - 1, by omega⟩
  have he := hF.ok l[i] (List.getElem_mem hi)
  obtain ⟨x, hx⟩ : ∃ x : Nat, l[i] = (x : Int) := ⟨l[i].toNat, by omega⟩
  have hsrc := By (w := w) hi (show k < w by omega)
  have hP : i * w + k < 8 * N := by
   have : (i + 1) * w ≤ l.length * w := Nat.mul_le_mul_right _ hi
   rw [Nat.add_mul, Nat.one_mul] at this
   omega
  have hm : i * w ≤ 10000000 * 62 := Nat.mul_le_mul (by omega) hw
  rw [hx, Int.toNat_natCast] at hsrc
  have hxk : x / 2 ^ k < 9223372036854775808 := Nat.lt_of_le_of_lt (Nat.div_le_self _ _) (by omega)
  have ek : IntKind.i64.wrap ((k : Int) + 1) = ((k + 1 : Nat) : Int) := by rw [hJ (by omega) (by omega)]; omega
  rw [dS, show decide ((k : Int) < (w : Int)) = true by simp; omega, aS, ig (by omega), BB k (by omega), hx, PG, NQ _ hxk, au, Bc]
  by_cases hb : x.testBit k = true
  ·rw [if_pos hb, show ((1 : Int) == 1) = true from rfl, aS, yY hw (by omega) (by omega), sN (by omega), au, wW]
   have hj : (i * w + k) / 8 < out.length := by rw [hI.len]; omega
   obtain ⟨e, e1, e2⟩ := rV hI.by8 hj
   have hm8 : (i * w + k) % 8 < 8 := Nat.mod_lt _ (by decide)
   rw [aH hj, au, au, ig (by omega), HT _ hm8, e1, Ql e ⟨_, hm8⟩, au, Int.toNat_natCast]
   have hI' := BU hI hP (by rw [hsrc, hb]) e e2
   unfold j5
   rw [ek]
   have := ih f (k + 1) _ (by omega) (by omega) hI'
   rw [hx] at this
   exact this
  ·rw [if_neg hb, show ((0 : Int) == 1) = false from rfl, aF]
   have hI' := y0 hI (by rw [hsrc]; simpa using hb)
   unfold j5
   rw [ek]
   have := ih f (k + 1) _ (by omega) (by omega) hI'
   rw [hx] at this
   exact this
theorem CS {w : Nat} {l : List Int} (hF : su w l) {N : Nat} (hN : l.length * w ≤ 8 * N) : ∀ (m f i : Nat) (out : List Int), i + m = l.length → m < f → zZ (qL w l) N out (i * w) →
  ∃ out', cM (w : Int) l f out (i : Int) = some (out', l) ∧ zZ (qL w l) N out' (l.length * w) := by
 have hw := hF.w62
 intro m
 induction m with
 | zero =>
  intro f i out hi hf hI
  obtain ⟨f, rfl⟩ : ∃ q, f = q + 1 := ⟨f - 1, by omega⟩
  rw [cM, show decide ((i : Int) < (l.length : Int)) = false by simp; omega, aF]
  exact ⟨out, rfl, by rw [show l.length = i by omega]; exact hI⟩
 | succ m ih =>
  intro f i out hi hf hI
  obtain ⟨f, rfl⟩ : ∃ q, f = q + 1 := ⟨f - 1, by omega⟩
  have hil : i < l.length := by omega
  obtain ⟨out1, h1, h2⟩ := DP hF hN (cM (w : Int) l f) hil w aK 0 out (by omega) (by rw [bP]; omega) (by simpa using hI)
  rw [show ((0 : Nat) : Int) = 0 from rfl] at h1
  rw [cM, aU hil, aS, aH hil, au, h1]
  exact ih f (i + 1) out1 (by omega) (by omega) h2
theorem ME {w : Nat} {l : List Int} (hF : su w l) : ∃ out, mD (w : Int) l = some (out, l) ∧ zZ (qL w l) ((l.length * w + 7) / 8) out (l.length * w) := by
 have hw := hF.w62
 have hm : l.length * w ≤ 10000000 * 62 := Nat.mul_le_mul hF.len hw
 have hs := ul hw hF.len
 have hlen := hF.len
 unfold mD
 rw [au, hs, ig (by omega), Int.toNat_natCast]
 exact CS hF (by omega) l.length aK 0 _ (by omega) (by rw [bP]; omega) (by rw [Nat.zero_mul]; exact xy _ _)
def pk (w : Nat) (l : List Int) : List Int := (kr (w : Int) l).getD []
theorem PE {w : Nat} {l : List Int} (hF : su w l) : kr (w : Int) l = some (pk w l) := by
 obtain ⟨out, h, _⟩ := IP hF
 unfold pk; rw [h]; rfl
theorem yV {w : Nat} {l : List Int} (hF : su w l) : zZ (qL w l) ((l.length * w + 7) / 8) (pk w l) (l.length * w) := by
 obtain ⟨out, h, hi⟩ := IP hF
 unfold pk; rw [h]; exact hi
theorem Px {w : Nat} {l : List Int} (hF : su w l) : sa (w : Int) l = some (pk w l) := by
 obtain ⟨out, h, hi⟩ := NC hF
 rw [h, zf hi (yV hF)]
theorem PD {w : Nat} {l : List Int} (hF : su w l) : mD (w : Int) l = some (pk w l, l) := by
 obtain ⟨out, h, hi⟩ := ME hF
 rw [h, zf hi (yV hF)]
theorem B8 {w : Nat} {l : List Int} (hF : su w l) : (pk w l).length = (l.length * w + 7) / 8 := (yV hF).len
theorem H5 {w : Nat} {l : List Int} (hF : su w l) : UB w l.length (pk w l) := ⟨hF.w62, hF.len, (yV hF).by8, B8 hF⟩
theorem A0 (src : Nat → Bool) (x base : Nat) : ∀ k, (∀ j, j < k → src (base + j) = x.testBit j) → pn src base k = x % 2 ^ k
 | 0, _ => by simp [pn, Nat.mod_one]
 | k + 1, h => by
  have e := h k (by omega)
  rw [pn, A0 src x base k (fun j hj => h j (by omega)), e, Nat.pow_succ, Nat.mod_mul, Nat.testBit_eq_decide_div_mod_eq]
  have := Nat.mod_two_eq_zero_or_one (x / 2 ^ k)
  by_cases hb : x / 2 ^ k % 2 = 1
  ·simp [hb]
  ·rw [show x / 2 ^ k % 2 = 0 by omega]; simp
theorem F5 {w : Nat} {l : List Int} (hF : su w l) (hlt : ∀ e ∈ l, e < ((2 ^ w : Nat) : Int)) : nD w l.length (pk w l) = l := by
 have hI := yV hF
 refine List.ext_getElem (by simp [nD]) fun i h1 h2 => ?_
 rw [show (nD w l.length (pk w l))[i] = ((pn (nP (pk w l)) (i * w) w : Nat) : Int) by simp [nD]]
 have he := hF.ok l[i] (List.getElem_mem h2)
 have hv := A0 (nP (pk w l)) l[i].toNat (i * w) w (fun j hj => by
  have hp := I1 (n := l.length) h2 hj
  rw [hI.bit _ (by omega), decide_eq_true hp, Bool.true_and, By h2 hj])
 have h3 := hlt l[i] (List.getElem_mem h2)
 generalize 2 ^ w = q at hv h3
 rw [hv, Nat.mod_eq_of_lt (by omega)]
 omega
theorem Dc {w n : Nat} {b : List Int} (h : UB w n b) : lm (w : Int) (n : Int) b = some (nD w n b, (strOfNums (pk w (nD w n b))).toList == (strOfNums b).toList) := by
 have hn := h.len
 have e1 : cP (w : Int) (n : Int) b aK (List.replicate n 0) 0 = j2 (w : Int) b (nD w n b) := GM h n aK 0 (by omega) (by rw [bP]; omega)
 unfold lm
 rw [ul h.w62 hn, au, show ((b.length : Int) != (((n * w + 7) / 8 : Nat) : Int)) = false by rw [h.bl]; simp, aF, ig (by omega), Int.toNat_natCast, e1]
 unfold j2
 rw [PD (GL h), au, ig rfl]
 rfl
theorem D3 {w n : Nat} {b : List Int} (hw : w ≤ 62) (hn : n ≤ 10000000) (h : b.length ≠ (n * w + 7) / 8) : lm (w : Int) (n : Int) b = some ([], false) := by
 unfold lm
 rw [ul hw hn, au, show ((b.length : Int) != (((n * w + 7) / 8 : Nat) : Int)) = true by simp; omega, aS]
theorem Dl {w n : Nat} {b : List Int} (h : UB w n b) : q9 (w : Int) (n : Int) b = some (nD w n b) := by
 have hn := h.len
 have e2 : dO (w : Int) (n : Int) b aK (List.replicate n 0) 0 = some (nD w n b) := GF h n aK 0 (by omega) (by rw [bP]; omega)
 unfold q9
 rw [ig (by omega), Int.toNat_natCast, e2]
end Go.Proofs.YtnecojeemmnnaaaGreatDoor
namespace Go.Proofs.YtnecojeemmnnaaaGreatDoor
open Go Go.SX Go.SX.Cal
def vm : Int → List Int → Int
 | x, [] => x
 | x, y :: t => vm (if y < x then y else x) t
def xe : Int → List Int → Int
 | x, [] => x
 | x, y :: t => xe (if y > x then y else x) t
theorem EE : ∀ (t : List Int) (x : Int), vm x t ≤ x ∧ ∀ y ∈ t, vm x t ≤ y
 | [], x => by simp [vm]
 | y :: t, x => by
  have := EE t (if y < x then y else x)
  refine ⟨?_, fun z hz => ?_⟩
  ·simp only [vm]
   by_cases e : y < x
   ·rw [if_pos e] at this ⊢; omega
   ·rw [if_neg e] at this ⊢; omega
  ·simp only [vm]
   rcases List.mem_cons.1 hz with h | hz
   ·rw [h]
    by_cases e : y < x
    ·rw [if_pos e] at this ⊢; omega
    ·rw [if_neg e] at this ⊢; omega
   ·exact this.2 z hz
theorem EJ : ∀ (t : List Int) (x : Int), x ≤ xe x t ∧ ∀ y ∈ t, y ≤ xe x t
 | [], x => by simp [xe]
 | y :: t, x => by
  have := EJ t (if y > x then y else x)
  refine ⟨?_, fun z hz => ?_⟩
  ·simp only [xe]
   by_cases e : y > x
   ·rw [if_pos e] at this ⊢; omega
   ·rw [if_neg e] at this ⊢; omega
  ·simp only [xe]
   rcases List.mem_cons.1 hz with h | hz
   ·rw [h]
    by_cases e : y > x
    ·rw [if_pos e] at this ⊢; omega
    ·rw [if_neg e] at this ⊢; omega
   ·exact this.2 z hz
theorem FA : ∀ (t : List Int) (x : Int), vm x t = x ∨ vm x t ∈ t
 | [], x => by simp [vm]
 | y :: t, x => by
  simp only [vm]
  rcases FA t (if y < x then y else x) with h | h
  ·by_cases e : y < x
   ·rw [if_pos e] at h ⊢; exact .inr (by rw [h]; exact List.mem_cons_self ..)
   ·rw [if_neg e] at h ⊢; exact .inl h
  ·exact .inr (List.mem_cons_of_mem _ h)
theorem Bg : ∀ (t : List Int) (x : Int), xe x t = x ∨ xe x t ∈ t
 | [], x => by simp [xe]
 | y :: t, x => by
  simp only [xe]
  rcases Bg t (if y > x then y else x) with h | h
  ·by_cases e : y > x
   ·rw [if_pos e] at h ⊢; exact .inr (by rw [h]; exact List.mem_cons_self ..)
   ·rw [if_neg e] at h ⊢; exact .inl h
  ·exact .inr (List.mem_cons_of_mem _ h)
theorem NO {l : List Int} (hl : l.length ≤ 10000000) : ∀ (m f i : Nat) (x : Int), i + m = l.length → m < f → cZ l f x (i : Int) = some (vm x (l.drop i)) := by
 intro m
 induction m with
 | zero =>
  intro f i x hi hf
  obtain ⟨f, rfl⟩ := aL hf
  rw [cZ, bL (by omega), aj, List.drop_of_length_le (by omega)]; rfl
 | succ m ih =>
  intro f i x hi hf
  obtain ⟨f, rfl⟩ := aL hf
  have hil : i < l.length := by omega
  rw [cZ, aU hil, aE, aH hil, ab, al hil (by omega), ih f (i + 1) _ (by omega) (by omega), jA hil, vm]
theorem NH {l : List Int} (hl : l.length ≤ 10000000) : ∀ (m f i : Nat) (x : Int), i + m = l.length → m < f → da l f x (i : Int) = some (xe x (l.drop i)) := by
 intro m
 induction m with
 | zero =>
  intro f i x hi hf
  obtain ⟨f, rfl⟩ := aL hf
  rw [da, bL (by omega), aj, List.drop_of_length_le (by omega)]; rfl
 | succ m ih =>
  intro f i x hi hf
  obtain ⟨f, rfl⟩ := aL hf
  have hil : i < l.length := by omega
  rw [da, aU hil, aE, aH hil, ab, al hil (by omega), ih f (i + 1) _ (by omega) (by omega), jA hil, xe]
theorem Ny {l : List Int} (hl : l.length ≤ 10000000) : ∀ (m f i : Nat) (x : Int), i + m = l.length → m < f → gd l f x (i : Int) = oW l (vm x (l.drop i)) := by
 intro m
 induction m with
 | zero =>
  intro f i x hi hf
  obtain ⟨f, rfl⟩ := aL hf
  rw [gd, bL (by omega), aj, List.drop_of_length_le (by omega)]; rfl
 | succ m ih =>
  intro f i x hi hf
  obtain ⟨f, rfl⟩ := aL hf
  have hil : i < l.length := by omega
  rw [gd, aU hil, aE, aH hil, ab]
  unfold o9
  rw [al hil (by omega), jA hil, vm]
  by_cases h : l[i] < x
  ·rw [decide_eq_true h, aE, if_pos h, ih f (i + 1) _ (by omega) (by omega)]
  ·rw [decide_eq_false h, aj, if_neg h, ih f (i + 1) _ (by omega) (by omega)]
structure BL (d w : Nat) : Prop where
 lt : d < 2 ^ w
 le : w = 0 ∨ 2 ^ (w - 1) ≤ d
theorem BL.uniq {d v w : Nat} (h : BL d v) (k : BL d w) : v = w := by
 have key : ∀ {v w : Nat}, BL d v → BL d w → ¬ v < w := by
  intro v w h k hlt
  have h1 : 2 ^ v ≤ 2 ^ (w - 1) := Nat.pow_le_pow_right (by decide) (by omega)
  have := h.lt
  rcases k.le with e | e <;> omega
 have := key h k
 have := key k h
 omega
def bl (d : Nat) : Nat := if d = 0 then 0 else Nat.log2 d + 1
theorem E6 (d : Nat) : BL d (bl d) := by
 unfold bl
 by_cases h : d = 0
 ·subst h; exact ⟨by decide, .inl rfl⟩
 ·rw [if_neg h]
  exact ⟨Nat.lt_log2_self, .inr (by rw [Nat.add_sub_cancel]; exact Nat.log2_self_le h)⟩
theorem BL.shift {d v k : Nat} (hd : 2 ^ k ≤ d) (h : BL (d / 2 ^ k) v) : BL d (v + k) := by
 have hk : 0 < 2 ^ k := Nat.pow_pos (by decide)
 have hq : 1 ≤ d / 2 ^ k := (Nat.one_le_div_iff hk).2 hd
 refine ⟨?_, .inr ?_⟩
 ·rw [Nat.pow_add]; exact (Nat.div_lt_iff_lt_mul hk).1 h.lt
 ·rcases h.le with e | e
  ·subst e; have := h.lt; simp at this; omega
  ·have hv : v ≠ 0 := by rintro rfl; have := h.lt; simp at this; omega
   rw [show v + k - 1 = (v - 1) + k by omega, Nat.pow_add]
   exact (Nat.le_div_iff_mul_le hk).1 e
theorem zd {d k : Nat} (h : 2 ^ k ≤ d) : bl d = bl (d / 2 ^ k) + k := (E6 d).uniq ((E6 _).shift h)
theorem KI : ∀ d : Fin 256, ∀ a : Fin 8, jr (d.val : Int) ((8 * a.val : Nat) : Int) = some ((bl d.val + 8 * a.val : Nat) : Int) := by decide +kernel
theorem Hu {d a : Nat} (hd : d < 256) (ha : a < 8) : jr (d : Int) ((8 * a : Nat) : Int) = some ((bl d + 8 * a : Nat) : Int) := KI ⟨d, hd⟩ ⟨a, ha⟩
theorem Nt (d k : Nat) (hk : k < 64) : ((d : Int).fdiv (2 ^ (min ((k : Int)).toNat (IntKind.u64).bits))) = ((d / 2 ^ k : Nat) : Int) := by
 rw [show min ((k : Int)).toNat (IntKind.u64).bits = k by show min ((k : Int)).toNat 64 = k; omega, PG]
theorem JI {d a : Nat} (hd : d < 65536) (ha : a < 7) : jp (d : Int) ((8 * a : Nat) : Int) = some ((bl d + 8 * a : Nat) : Int) := by
 unfold jp
 by_cases h : 256 ≤ d
 ·have := Nt d 8 (by decide)
  rw [decide_eq_true (by omega), aE, show ((8 : Int)) = ((8 : Nat) : Int) from rfl, this, hJ (by omega) (by omega), show ((8 * a : Nat) : Int) + ((8 : Nat) : Int) = ((8 * (a + 1) : Nat) : Int) by omega, Hu (by omega) (by omega), zd (k := 8) h]
  congr 2; omega
 ·rw [decide_eq_false (by omega), aj, Hu (by omega) (by omega)]
theorem Ia {d a : Nat} (hd : d < 4294967296) (ha : a < 5) : jv (d : Int) ((8 * a : Nat) : Int) = some ((bl d + 8 * a : Nat) : Int) := by
 unfold jv
 by_cases h : 65536 ≤ d
 ·have := Nt d 16 (by decide)
  rw [decide_eq_true (by omega), aE, show ((16 : Int)) = ((16 : Nat) : Int) from rfl, this, hJ (by omega) (by omega), show ((8 * a : Nat) : Int) + ((16 : Nat) : Int) = ((8 * (a + 2) : Nat) : Int) by omega, JI (by omega) (by omega), zd (k := 16) h]
  congr 2; omega
 ·rw [decide_eq_false (by omega), aj, JI (by omega) (by omega)]
theorem N6 {d : Nat} (hd : d < 18446744073709551616) : mQ (d : Int) = some ((bl d : Nat) : Int) := by
 unfold mQ
 by_cases h : 4294967296 ≤ d
 ·have := Nt d 32 (by decide)
  rw [decide_eq_true (by omega), aE, show ((32 : Int)) = ((32 : Nat) : Int) from rfl, this, show ((32 : Nat) : Int) = ((8 * 4 : Nat) : Int) from rfl, Ia (by omega) (by omega), zd (k := 32) h]
 ·rw [decide_eq_false (by omega), aj, show (0 : Int) = ((8 * 0 : Nat) : Int) from rfl, Ia (by omega) (by omega)]
  rfl
theorem Ox {d : Nat} (h : d < 4611686018427387904) : bl d ≤ 62 := by
 rcases (E6 d).le with e | e
 ·omega
 ·have h3 : 2 ^ (bl d - 1) < 2 ^ 62 := Nat.lt_of_le_of_lt e h
  have := (Nat.pow_lt_pow_iff_right (by decide : 1 < 2)).1 h3
  omega
def eF : List Int → List Int
 | [] => []
 | x :: t =>
  let m := vm x t
  let w := bl (xe x t - m).toNat
  sg m ++ [(w : Int)] ++ pk w ((x :: t).map (· - m))
structure Mq (l : List Int) (m : Int) (w : Nat) : Prop where
 lo : ∀ x ∈ l, m ≤ x
 fit : su w (l.map (· - m))
 lt : ∀ e ∈ l.map (· - m), e < ((2 ^ w : Nat) : Int)
 mr : -2000000000000000000 ≤ m ∧ m ≤ 2000000000000000000
 least : ∀ v, v < w → ∃ e ∈ l.map (· - m), ((2 ^ v : Nat) : Int) ≤ e
theorem GW {x : Int} {t : List Int} (hl : (x :: t).length ≤ 10000000) (hr : np (x :: t)) : Mq (x :: t) (vm x t) (bl (xe x t - vm x t).toNat) := by
 obtain ⟨a1, a2⟩ := EE t x
 obtain ⟨b1, b2⟩ := EJ t x
 have hlo : ∀ y ∈ x :: t, vm x t ≤ y := fun y hy => by
  rcases List.mem_cons.1 hy with rfl | hy
  ·exact a1
  ·exact a2 y hy
 have hhi : ∀ y ∈ x :: t, y ≤ xe x t := fun y hy => by
  rcases List.mem_cons.1 hy with rfl | hy
  ·exact b1
  ·exact b2 y hy
 have hmem : vm x t ∈ x :: t := (FA t x).elim (fun h => by rw [h]; exact List.mem_cons_self ..) (List.mem_cons_of_mem _)
 have hmem2 : xe x t ∈ x :: t := (Bg t x).elim (fun h => by rw [h]; exact List.mem_cons_self ..) (List.mem_cons_of_mem _)
 have m1 := hr _ hmem
 have m2 := hr _ hmem2
 have hB := E6 (xe x t - vm x t).toNat
 have hd : (xe x t - vm x t).toNat < 4611686018427387904 := by omega
 refine ⟨hlo, ⟨Ox hd, by simpa using hl, fun e he => ?_⟩, fun e he => ?_, m1, fun v hv => ⟨xe x t - vm x t, List.mem_map.2 ⟨_, hmem2, rfl⟩, ?_⟩⟩
 ·obtain ⟨y, hy, rfl⟩ := List.mem_map.1 he
  have := hlo y hy; have := hhi y hy
  omega
 ·obtain ⟨y, hy, rfl⟩ := List.mem_map.1 he
  have := hlo y hy; have := hhi y hy; have := hB.lt
  generalize 2 ^ _ = q at *
  omega
 ·rcases hB.le with e | e
  ·omega
  ·have : 2 ^ v ≤ 2 ^ (bl (xe x t - vm x t).toNat - 1) := Nat.pow_le_pow_right (by decide) (by omega)
   generalize 2 ^ (bl (xe x t - vm x t).toNat - 1) = q at *
   generalize 2 ^ v = u at *
   have := hlo _ hmem2
   omega
theorem N2 {w : Nat} (h : w ≤ 62) : IntKind.u8.wrap (w : Int) = (w : Int) := by rw [Ll]; omega
theorem Og {l : List Int} {m : Int} {w : Nat} (hl : l.length ≤ 10000000) (hr : np l) (hF : Mq l m w) : ∀ (k f i : Nat) (b : List Int), i + k = l.length → k < f → b = (l.take i).map (· - m) →
  gL l m (w : Int) f b (i : Int) = some (sg m ++ [(w : Int)] ++ pk w (l.map (· - m))) := by
 intro k
 induction k with
 | zero =>
  intro f i b hi hf hbe
  obtain ⟨f, rfl⟩ := aL hf
  have hbl : b = l.map (· - m) := by rw [hbe, List.take_of_length_le (by omega)]
  have h10 := pC (n := m) (by have := hF.mr; omega)
  have hpl := B8 hF.fit
  have hw := hF.fit.w62
  have hm : l.length * w ≤ 10000000 * 62 := Nat.mul_le_mul hl hw
  rw [List.length_map] at hpl
  rw [gL, bL (by omega), aj]
  unfold pF
  unfold sg at h10 ⊢
  rw [Cx (by have := hF.mr; omega), ab, aJ (by omega), hbl, PE hF.fit, ab, N2 hw, aJ (by rw [List.length_append, List.length_singleton]; omega)]
 | succ k ih =>
  intro f i b hi hf hbe
  obtain ⟨f, rfl⟩ := aL hf
  have hil : i < l.length := by omega
  have hx := hr.get hil
  have hm := hF.mr
  have hb : b.length ≤ i := by rw [hbe, List.length_map, List.length_take]; omega
  rw [gL, aU hil, aE, aH hil, ab, aJ (by omega), al hil (by omega), hJ (x := l[i] - m) (by omega) (by omega)]
  exact ih f (i + 1) (b ++ [l[i] - m]) (by omega) (by omega) (by rw [hbe, List.take_succ_eq_append_getElem hil, List.map_append]; rfl)
theorem Oc {l : List Int} {m : Int} (hl : l.length ≤ 10000000) (hr : np l) (hm : -2000000000000000000 ≤ m ∧ m ≤ 2000000000000000000) : ∀ (k f i : Nat) (b : List Int), i + k = l.length → k < f → b.length = i →
  jh l m f b (i : Int) = o8 m (b ++ (l.drop i).map (· - m)) := by
 intro k
 induction k with
 | zero =>
  intro f i b hi hf hb
  obtain ⟨f, rfl⟩ := aL hf
  rw [jh, bL (by omega), aj, List.drop_of_length_le (by omega)]; simp
 | succ k ih =>
  intro f i b hi hf hb
  obtain ⟨f, rfl⟩ := aL hf
  have hil : i < l.length := by omega
  have hx := hr.get hil
  rw [jh, aU hil, aE, aH hil, ab, aJ (by omega), al hil (by omega), hJ (x := l[i] - m) (by omega) (by omega), ih f (i + 1) (b ++ [l[i] - m]) (by omega) (by omega) (by simp [hb]), jA hil]
  simp only [List.map_cons, List.append_assoc, List.singleton_append]
theorem Cl {w : Nat} (hw : w ≤ 62) {l : List Int} (hl : l.length < 1000000000) (h0 : ∀ e ∈ l, 0 ≤ e) : rL (w : Int) l = some (decide (∀ e ∈ l, e < ((2 ^ w : Nat) : Int))) := by
 rw [KL hw hl]
 congr 1
 by_cases h : ∀ e ∈ l, e < ((2 ^ w : Nat) : Int)
 ·rw [decide_eq_true h, Option.isNone_iff_eq_none.2]
  rw [oC]
  intro j _ hj
  rw [Bs hj]
  have h1 := h0 _ (List.getElem_mem hj); have h2 := h _ (List.getElem_mem hj)
  simp only [Bool.or_eq_false_iff, decide_eq_false_iff_not]
  exact ⟨by omega, by omega⟩
 ·rw [decide_eq_false h]
  cases hf : first (sC w l) 0 l.length with
  | some i => rfl
  | none =>
   exfalso
   refine h fun e he => ?_
   obtain ⟨i, hi, rfl⟩ := List.getElem_of_mem he
   have := oC.1 hf i (Nat.zero_le _) hi
   rw [Bs hi] at this
   simp only [Bool.or_eq_false_iff, decide_eq_false_iff_not] at this
   omega
theorem Kw {l : List Int} {m : Int} {w : Nat} (hl : l.length ≤ 10000000) (hF : Mq l m w) : ∀ (k f v : Nat), v + k = w → k < f →
  jf m (l.map (· - m)) f (v : Int) = some (sg m ++ [(w : Int)] ++ pk w (l.map (· - m))) := by
 have hw := hF.fit.w62
 have h0 : ∀ e ∈ l.map (· - m), 0 ≤ e := fun e he => (hF.fit.ok e he).1
 intro k
 induction k with
 | zero =>
  intro f v hv hf
  obtain ⟨f, rfl⟩ := aL hf
  have : v = w := by omega
  subst this
  have h10 := pC (n := m) (by have := hF.mr; omega)
  have hpl := B8 hF.fit
  have hm : l.length * v ≤ 10000000 * 62 := Nat.mul_le_mul hl hw
  rw [List.length_map] at hpl
  rw [jf, Cl hw (by simp; omega) h0, ab, decide_eq_true hF.lt]
  show aq false _ _ = _
  rw [aj]
  unfold rn
  unfold sg at h10 ⊢
  rw [sT (by have := hF.mr; omega), ab, aJ (by omega), Px hF.fit, ab, N2 hw, aJ (by rw [List.length_append, List.length_singleton]; omega)]
 | succ k ih =>
  intro f v hv hf
  obtain ⟨f, rfl⟩ := aL hf
  obtain ⟨e, he, h1⟩ := hF.least v (by omega)
  rw [jf, Cl (by omega) (by simp; omega) h0, ab, decide_eq_false (fun h => by have := h e he; omega)]
  show aq true _ _ = _
  rw [aE, hJ (by omega) (by omega), show (v : Int) + 1 = ((v + 1 : Nat) : Int) by omega]
  exact ih f (v + 1) (by omega) (by omega)
theorem Bj {l : List Int} (hl : l.length ≤ 10000000) (hr : np l) : me l = some (eF l) := by
 unfold me
 cases l with
 | nil => rfl
 | cons x t =>
  have hF := GW hl hr
  have h1 := hr x (List.mem_cons_self ..)
  rw [show (((x :: t).length : Int) == 0) = false by simp; omega, aj]
  unfold m8 nh
  have e1 : at? (x :: t) 0 = some x := rfl
  have c1 := NO hl t.length aK 1 x (by simp; omega) (by rw [cI]; simp at hl; omega)
  have c2 := NH hl t.length aK 1 x (by simp; omega) (by rw [cI]; simp at hl; omega)
  rw [show ((1 : Nat) : Int) = 1 from rfl, List.drop_succ_cons, List.drop_zero] at c1 c2
  rw [show decide (((x :: t).length : Int) < 1) = false by simp; omega, aj, aj, e1, ab, ab, c1, ab, c2, ab]
  have hlo := EE t x
  have hhi := EJ t x
  have hmem2 : xe x t ∈ x :: t := (Bg t x).elim (fun h => by rw [h]; exact List.mem_cons_self ..) (List.mem_cons_of_mem _)
  have m2 := hr _ hmem2
  have m1 := hF.mr
  rw [hJ (x := xe x t - vm x t) (by omega) (by omega), rA, show (xe x t - vm x t) % 18446744073709551616 = ((xe x t - vm x t).toNat : Int) by omega, N6 (by omega), ab]
  have h := Og hl hr hF (x :: t).length aK 0 [] (by simp) (by rw [cI]; omega) rfl
  rw [show ((0 : Nat) : Int) = 0 from rfl] at h
  rw [h]; rfl
theorem Bz {l : List Int} (hl : l.length ≤ 10000000) (hr : np l) : oB l = some (eF l) := by
 unfold oB
 cases l with
 | nil => rfl
 | cons x t =>
  have hF := GW hl hr
  rw [show (((x :: t).length : Int) == 0) = false by simp; omega, aj]
  have e1 : at? (x :: t) 0 = some x := rfl
  have c1 := Ny hl (x :: t).length aK 0 x (by simp) (by rw [cI]; omega)
  rw [show ((0 : Nat) : Int) = 0 from rfl, List.drop_zero, vm, if_neg (by omega)] at c1
  rw [e1, ab, c1]
  unfold oW
  have c2 := Oc hl hr hF.mr (x :: t).length aK 0 [] (by simp) (by rw [cI]; omega) rfl
  rw [show ((0 : Nat) : Int) = 0 from rfl, List.drop_zero, List.nil_append] at c2
  rw [c2]
  unfold o8
  have c3 := Kw hl hF (bl (xe x t - vm x t).toNat) aK 0 (by omega) (by rw [cI]; have := hF.fit.w62; omega)
  rw [show ((0 : Nat) : Int) = 0 from rfl] at c3
  rw [c3]; rfl
end Go.Proofs.YtnecojeemmnnaaaGreatDoor
namespace Go.Proofs.YtnecojeemmnnaaaGreatDoor
open Go Go.SX Go.SX.Cal
abbrev SS (l : List Int) : Prop := l.Pairwise (· < ·)
theorem F6 : ∀ (a b : List Int), SS a → SS b → (∀ x, x ∈ a ↔ x ∈ b) → a = b
 | [], [], _, _, _ => rfl
 | [], y :: t, _, _, h => absurd ((h y).2 (List.mem_cons_self ..)) (by simp)
 | x :: s, [], _, _, h => absurd ((h x).1 (List.mem_cons_self ..)) (by simp)
 | x :: s, y :: t, ha, hb, h => by
  obtain ⟨a1, a2⟩ := List.pairwise_cons.1 ha
  obtain ⟨b1, b2⟩ := List.pairwise_cons.1 hb
  have e : x = y := by
   rcases List.mem_cons.1 ((h x).1 (List.mem_cons_self ..)) with e | e
   ·exact e
   ·rcases List.mem_cons.1 ((h y).2 (List.mem_cons_self ..)) with e' | e'
    ·exact e'.symm
    ·have := a1 _ e'; have := b1 _ e; omega
  subst e
  rw [F6 s t a2 b2 fun z => ?_]
  constructor
  ·intro hz
   rcases List.mem_cons.1 ((h z).1 (List.mem_cons_of_mem _ hz)) with e | e
   ·subst e; have := a1 _ hz; omega
   ·exact e
  ·intro hz
   rcases List.mem_cons.1 ((h z).2 (List.mem_cons_of_mem _ hz)) with e | e
   ·subst e; have := b1 _ hz; omega
   ·exact e
def ws (l : List Int) : List Int := Go.Lib.compact (l.mergeSort fun x y => decide (x ≤ y))
theorem Qv (l : List Int) : ∀ i j (hi : i < (l.mergeSort fun x y => decide (x ≤ y)).length) (hj : j < (l.mergeSort fun x y => decide (x ≤ y)).length), i < j → (l.mergeSort fun x y => decide (x ≤ y))[i] ≤ (l.mergeSort fun x y => decide (x ≤ y))[j] := by
 have h : (l.mergeSort fun x y => decide (x ≤ y)).Pairwise (fun x y => decide (x ≤ y) = true) := List.pairwise_mergeSort (fun a b c h1 h2 => by simp at *; omega) (fun a b => by simp; omega) l
 rw [List.pairwise_iff_getElem] at h
 intro i j hi hj hij
 exact of_decide_eq_true (h i j hi hj hij)
theorem KB {d : Array Int} (hs : ∀ i j, i ≤ j → j < d.size → d[i]! ≤ d[j]!) : ∀ m, m ≤ d.size → SS (Go.Lib.compactUpTo d m) ∧ (∀ x, x ∈ Go.Lib.compactUpTo d m ↔ ∃ j, j < m ∧ d[j]! = x) ∧ (Go.Lib.compactUpTo d m).length ≤ m := by
 intro m
 induction m with
 | zero => intro _; simp [Go.Lib.compactUpTo]
 | succ m ih =>
  intro hm
  obtain ⟨i1, i2, i3⟩ := ih (by omega)
  rw [Go.Lib.compactUpTo_succ]
  cases hk : Go.Lib.keeps d m with
  | false =>
   have hk' : ¬ (m = 0 ∨ d[m]! ≠ d[m - 1]!) := of_decide_eq_false hk
   have h0 : m ≠ 0 := fun e => hk' (.inl e)
   have h1 : d[m]! = d[m - 1]! := Classical.byContradiction fun e => hk' (.inr e)
   rw [if_neg (by simp), List.append_nil]
   refine ⟨i1, fun x => ?_, by omega⟩
   rw [i2]
   constructor
   ·rintro ⟨j, hj, e⟩; exact ⟨j, by omega, e⟩
   ·rintro ⟨j, hj, e⟩
    by_cases hjm : j = m
    ·subst hjm; exact ⟨j - 1, by omega, by rw [← h1]; exact e⟩
    ·exact ⟨j, by omega, e⟩
  | true =>
   have hk' : m = 0 ∨ d[m]! ≠ d[m - 1]! := of_decide_eq_true hk
   rw [if_pos rfl]
   refine ⟨List.pairwise_append.2 ⟨i1, List.pairwise_singleton .., fun a ha b hb => ?_⟩, fun x => ?_, by simp; omega⟩
   ·have : b = d[m]! := by simpa using hb
    subst this
    obtain ⟨j, hj, e⟩ := (i2 a).1 ha
    rcases hk' with h0 | h0
    ·omega
    ·have h1 := hs j (m - 1) (by omega) (by omega)
     have h2 := hs (m - 1) m (by omega) (by omega)
     rw [← e]
     have : d[m - 1]! ≠ d[m]! := fun e => h0 e.symm
     omega
   ·rw [List.mem_append, i2]
    constructor
    ·rintro (⟨j, hj, e⟩ | h)
     ·exact ⟨j, by omega, e⟩
     ·exact ⟨m, by omega, by simpa using (List.mem_singleton.1 h).symm⟩
    ·rintro ⟨j, hj, e⟩
     by_cases hjm : j = m
     ·subst hjm; exact .inr (by rw [← e]; exact List.mem_singleton.2 rfl)
     ·exact .inl ⟨j, by omega, e⟩
theorem yn (l : List Int) : SS (ws l) ∧ (∀ x, x ∈ ws l ↔ x ∈ l) ∧ (ws l).length ≤ l.length := by
 have hsz : (l.mergeSort fun x y => decide (x ≤ y)).length = l.length := by simp
 have h := KB (d := (l.mergeSort fun x y => decide (x ≤ y)).toArray) (fun i j hij hj => by
  have hj' : j < (l.mergeSort fun x y => decide (x ≤ y)).length := by simpa using hj
  rw [getElem!_pos _ i (by simp at hj ⊢; omega), getElem!_pos _ j hj]
  rcases Nat.lt_or_ge i j with h | h
  ·exact Qv l i j (by omega) hj' h
  ·have : i = j := by omega
   subst this; exact Int.le_refl _) (l.mergeSort fun x y => decide (x ≤ y)).length (by simp)
 obtain ⟨h1, h2, h3⟩ := h
 refine ⟨h1, fun x => ?_, Nat.le_trans h3 (Nat.le_of_eq hsz)⟩
 show x ∈ Go.Lib.compactUpTo _ _ ↔ _
 rw [h2]
 constructor
 ·rintro ⟨j, hj, e⟩
  rw [getElem!_pos _ j (by simpa using hj)] at e
  rw [← e]
  have : ((l.mergeSort fun x y => decide (x ≤ y)).toArray)[j]'(by simpa using hj) ∈ (l.mergeSort fun x y => decide (x ≤ y)) := by simp
  exact List.mem_mergeSort.1 this
 ·intro hx
  obtain ⟨j, hj, e⟩ := List.getElem_of_mem (List.mem_mergeSort (le := fun x y => decide (x ≤ y)) |>.2 hx)
  exact ⟨j, hj, by rw [getElem!_pos _ j (by simpa using hj)]; simpa using e⟩
def Oi (n : Int) (out : List Int) : List Int :=
 if (out.dropWhile (fun x => decide (x < n))).head? = some n then out else out.takeWhile (fun x => decide (x < n)) ++ n :: out.dropWhile (fun x => decide (x < n))
theorem HG (n : Int) : ∀ (l : List Int), ∀ x ∈ l.takeWhile (fun x => decide (x < n)), x < n
 | [], x, h => by simp at h
 | y :: t, x, h => by
  by_cases hy : y < n
  ·rw [List.takeWhile_cons, decide_eq_true hy, if_pos rfl] at h
   rcases List.mem_cons.1 h with rfl | h
   ·exact hy
   ·exact HG n t x h
  ·rw [List.takeWhile_cons, decide_eq_false hy, if_neg (by simp)] at h; cases h
theorem yJ (n : Int) : ∀ (l : List Int) (y : Int) (t : List Int), l.dropWhile (fun x => decide (x < n)) = y :: t → n ≤ y
 | [], y, t, h => by simp at h
 | z :: s, y, t, h => by
  by_cases hz : z < n
  ·rw [List.dropWhile_cons, decide_eq_true hz, if_pos rfl] at h; exact yJ n s y t h
  ·rw [List.dropWhile_cons, decide_eq_false hz, if_neg (by simp)] at h
   cases h; omega
theorem Mr {n : Int} {out : List Int} (h : SS out) : SS (Oi n out) ∧ (∀ x, x ∈ Oi n out ↔ x = n ∨ x ∈ out) ∧ (Oi n out).length ≤ out.length + 1 := by
 have hsp : out.takeWhile (fun x => decide (x < n)) ++ out.dropWhile (fun x => decide (x < n)) = out := List.takeWhile_append_dropWhile
 have h1 := HG n out
 have h2 := yJ n out
 unfold Oi
 generalize out.takeWhile (fun x => decide (x < n)) = a at *
 generalize out.dropWhile (fun x => decide (x < n)) = b at *
 subst hsp
 obtain ⟨p1, p2, p3⟩ := List.pairwise_append.1 h
 by_cases hb : b.head? = some n
 ·rw [if_pos hb]
  refine ⟨h, fun x => ⟨.inr, ?_⟩, by omega⟩
  rintro (rfl | hx)
  ·exact List.mem_append_right _ (List.mem_of_mem_head? hb)
  ·exact hx
 ·rw [if_neg hb]
  refine ⟨List.pairwise_append.2 ⟨p1, List.pairwise_cons.2 ⟨fun y hy => ?_, p2⟩, fun x hx y hy => ?_⟩, fun x => ?_, by simp; omega⟩
  ·cases b with
   | nil => cases hy
   | cons z t =>
    have hz := h2 z t rfl
    have hne : z ≠ n := fun e => hb (by rw [e]; rfl)
    rcases List.mem_cons.1 hy with rfl | hy
    ·omega
    ·have := (List.pairwise_cons.1 p2).1 y hy; omega
  ·rcases List.mem_cons.1 hy with rfl | hy
   ·exact h1 x hx
   ·exact p3 x hx y hy
  ·simp only [List.mem_append, List.mem_cons]
   constructor
   ·rintro (h | h | h)
    ·exact .inr (.inl h)
    ·exact .inl h
    ·exact .inr (.inr h)
   ·rintro (h | h | h)
    ·exact .inr (.inl h)
    ·exact .inl h
    ·exact .inr (.inr h)
theorem yA {a b : List Int} {n z : Int} : (a ++ z :: b).set a.length n = a ++ n :: b := by
 rw [List.set_append_right _ _ (Nat.le_refl _), Nat.sub_self, List.set_cons_zero]
theorem NR {rec1 : List Int → Int → Option (List Int)} {x1 n : Int} {a b : List Int} (hl : (a ++ b).length ≤ 10000000) (hb : ∀ y t, b = y :: t → n ≤ y) :
  jm rec1 (a ++ b) x1 n (a.length : Int) = jx rec1 x1 (if b.head? = some n then a ++ b else a ++ n :: b) := by
 have hla : a.length ≤ 10000000 := by simp at hl; omega
 have hlb : a.length + b.length ≤ 10000000 := by simpa using hl
 have hw : IntKind.i64.wrap ((a.length : Int) + 1) = ((a.length + 1 : Nat) : Int) := by rw [hJ (by omega) (by omega)]; omega
 unfold jm
 cases b with
 | nil =>
  have hd1 : decide ((a.length : Int) < ((a.length : Nat) : Int)) = false := by simp
  have hd2 : decide (((a.length + 1 : Nat) : Int) < (((a ++ [(0 : Int)]).length : Nat) : Int)) = false := by simp
  have hd3 : decide ((a.length : Int) < (((a ++ [(0 : Int)]).length : Nat) : Int)) = true := by simp; omega
  rw [List.append_nil, hd1, aj]
  unfold jn
  rw [aj, aJ (by omega), hw, hd2, aj, aJ (by simp; omega), hd3, aE, aJ (by simp; omega)]
  unfold fv
  rw [aH (show a.length < (a ++ [(0 : Int)]).length by simp), ab, Int.toNat_natCast, yA]
  simp
 | cons y t =>
  have hy := hb y t rfl
  have hlt : a.length < (a ++ y :: t).length := by simp
  rw [aU hlt, aE, aH hlt, ab]
  have he : (a ++ y :: t)[a.length] = y := by simp
  rw [he]
  unfold jn
  by_cases e : y = n
  ·rw [show (y == n) = true by simp [e], aE, if_pos (by rw [e]; rfl)]
  ·rw [show (y == n) = false by simp [e], aj, aJ (by simp at hlb ⊢; omega), hw, show decide (((a.length + 1 : Nat) : Int) < ((((a ++ y :: t) ++ [(0 : Int)]).length : Nat) : Int)) = true by simp; omega, aE, aJ (by simp; omega), show decide ((a.length : Int) < ((((a ++ y :: t) ++ [(0 : Int)]).length : Nat) : Int)) = true by simp; omega, aE, aJ (by simp; omega)]
   rw [if_neg (by simpa using e)]
   unfold fv
   rw [Int.toNat_natCast, Int.toNat_natCast, Nat.zero_add, Nat.zero_add]
   have hcp : qK ((a ++ y :: t) ++ [(0 : Int)]) (a.length + 1) (((((a ++ y :: t) ++ [(0 : Int)]).drop a.length).take (((a ++ y :: t) ++ [(0 : Int)]).length - a.length)).take (min ((((a ++ y :: t) ++ [(0 : Int)]).drop a.length).take (((a ++ y :: t) ++ [(0 : Int)]).length - a.length)).length (((a ++ y :: t) ++ [(0 : Int)]).length - (a.length + 1)))) = a ++ y :: (y :: t) := by
    have e1 : ((a ++ y :: t) ++ [(0 : Int)]).drop a.length = (y :: t) ++ [0] := by rw [List.append_assoc, List.drop_left]
    rw [e1, List.take_of_length_le (l := (y :: t) ++ [0]) (by simp <;> omega), show min ((y :: t) ++ [(0 : Int)]).length (((a ++ y :: t) ++ [(0 : Int)]).length - (a.length + 1)) = (y :: t).length by simp; omega, List.take_left]
    rw [← Bn (by simp; omega)]
    have e2 : ((a ++ y :: t) ++ [(0 : Int)]).take (a.length + 1) = a ++ [y] := by
     rw [show (a ++ y :: t) ++ [(0 : Int)] = (a ++ [y]) ++ (t ++ [0]) by simp, show a.length + 1 = (a ++ [y]).length by simp, List.take_left]
    rw [e2, List.drop_of_length_le (by simp; omega)]
    simp
   rw [hcp, aH (show a.length < (a ++ y :: y :: t).length by simp), ab, yA]
theorem MI {l : List Int} (hl : l.length ≤ 10000000) (rec1 : List Int → Int → Option (List Int)) (x1 n : Int) : ∀ (m f j : Nat), j + m = l.length → m < f →
  cU rec1 l x1 n f (j : Int) = jm rec1 l x1 n ((j + ((l.drop j).takeWhile (fun x => decide (x < n))).length : Nat) : Int) := by
 intro m
 induction m with
 | zero =>
  intro f j hj hf
  obtain ⟨f, rfl⟩ := aL hf
  rw [cU, show decide ((j : Int) < ((l.length : Nat) : Int)) = false by simp; omega, aj, List.drop_of_length_le (by omega)]
  simp [jo, aj]
 | succ m ih =>
  intro f j hj hf
  obtain ⟨f, rfl⟩ := aL hf
  have hjl : j < l.length := by omega
  rw [cU, aU hjl, aE, aH hjl, ab, jA hjl]
  unfold jo
  by_cases h : l[j] < n
  ·rw [decide_eq_true h, aE, al hjl (by omega), ih f (j + 1) (by omega) (by omega), List.takeWhile_cons, decide_eq_true h, if_pos rfl, List.length_cons, show j + 1 + ((l.drop (j + 1)).takeWhile (fun x => decide (x < n))).length = j + (((l.drop (j + 1)).takeWhile (fun x => decide (x < n))).length + 1) by omega]
  ·rw [decide_eq_false h, aj, List.takeWhile_cons, decide_eq_false h, if_neg (by simp), List.length_nil, Nat.add_zero]
theorem Ih {l : List Int} (hl : l.length ≤ 10000000) : ∀ (m f i : Nat) (out : List Int), i + m = l.length → m < f → SS out → out.length ≤ i →
  ∃ r, bi l f out (i : Int) = some r ∧ SS r ∧ ∀ x, x ∈ r ↔ x ∈ out ∨ x ∈ l.drop i := by
 intro m
 induction m with
 | zero =>
  intro f i out hi hf hs ho
  obtain ⟨f, rfl⟩ := aL hf
  rw [bi, bL (by omega), aj, List.drop_of_length_le (by omega)]
  exact ⟨out, rfl, hs, fun x => by simp⟩
 | succ m ih =>
  intro f i out hi hf hs ho
  obtain ⟨f, rfl⟩ := aL hf
  have hil : i < l.length := by omega
  obtain ⟨o1, o2, o3⟩ := Mr (n := l[i]) hs
  have hsp : out.takeWhile (fun x => decide (x < l[i])) ++ out.dropWhile (fun x => decide (x < l[i])) = out := List.takeWhile_append_dropWhile
  have hsc := MI (l := out) (by omega) (bi l f) (i : Int) l[i] out.length aK 0 (by omega) (by rw [cI]; omega)
  rw [Nat.zero_add, List.drop_zero, show ((0 : Nat) : Int) = 0 from rfl] at hsc
  rw [bi, aU hil, aE, aH hil, ab, hsc]
  have hj := NR (rec1 := bi l f) (x1 := (i : Int)) (n := l[i]) (a := out.takeWhile (fun x => decide (x < l[i]))) (b := out.dropWhile (fun x => decide (x < l[i]))) (by rw [hsp]; omega) (yJ l[i] out)
  rw [hsp] at hj
  rw [hj]
  unfold jx
  rw [al hil (by omega)]
  obtain ⟨r, r1, r2, r3⟩ := ih f (i + 1) (Oi l[i] out) (by omega) (by omega) o1 (by omega)
  refine ⟨r, r1, r2, fun x => ?_⟩
  rw [r3, o2, jA hil, List.mem_cons]
  constructor
  ·rintro ((h | h) | h)
   ·exact .inr (.inl h)
   ·exact .inl h
   ·exact .inr (.inr h)
  ·rintro (h | h | h)
   ·exact .inl (.inr h)
   ·exact .inl (.inl h)
   ·exact .inr h
theorem PH {l : List Int} (hl : l.length ≤ 10000000) : m4 l = some (ws l) := by
 obtain ⟨r, r1, r2, r3⟩ := Ih hl l.length aK 0 [] (by omega) (by rw [cI]; omega) List.Pairwise.nil (by simp)
 unfold m4
 rw [show ((0 : Nat) : Int) = 0 from rfl] at r1
 rw [r1]
 congr 1
 obtain ⟨w1, w2, _⟩ := yn l
 refine F6 _ _ r2 w1 fun x => ?_
 rw [r3, w2]; simp
end Go.Proofs.YtnecojeemmnnaaaGreatDoor
namespace Go.Proofs.YtnecojeemmnnaaaGreatDoor
open Go Go.SX Go.SX.Cal
def ps (w : List Int) (x : Int) : Nat := (w.takeWhile (fun y => decide (y < x))).length
theorem Jz (w : List Int) (x : Int) : ps w x ≤ w.length := Fp _ w
theorem Hv {w : List Int} {x : Int} {h : Nat} (hh : h < w.length) (hp : h < ps w x) : w[h] < x := by
 have hsp : w.takeWhile (fun y => decide (y < x)) ++ w.dropWhile (fun y => decide (y < x)) = w := List.takeWhile_append_dropWhile
 have h1 := HG x w
 unfold ps at hp
 have e : w[h]? = (w.takeWhile (fun y => decide (y < x)))[h]? := by
  conv => lhs; rw [← hsp]
  exact List.getElem?_append_left hp
 rw [List.getElem?_eq_getElem hh, List.getElem?_eq_getElem hp] at e
 rw [Option.some.inj e]
 exact h1 _ (List.getElem_mem hp)
theorem Lg {w : List Int} (hs : SS w) {x : Int} {h : Nat} (hh : h < w.length) (hp : ps w x ≤ h) : x ≤ w[h] := by
 have hsp : w.takeWhile (fun y => decide (y < x)) ++ w.dropWhile (fun y => decide (y < x)) = w := List.takeWhile_append_dropWhile
 have h2 := yJ x w
 unfold ps at hp
 have e : w[h]? = (w.dropWhile (fun y => decide (y < x)))[h - ps w x]? := by
  conv => lhs; rw [← hsp]
  exact List.getElem?_append_right hp
 have hd : h - ps w x < (w.dropWhile (fun y => decide (y < x))).length := by
  have := congrArg List.length hsp
  rw [List.length_append] at this
  unfold ps; omega
 rw [List.getElem?_eq_getElem hh, List.getElem?_eq_getElem hd] at e
 rw [Option.some.inj e]
 have hss : SS (w.dropWhile (fun y => decide (y < x))) := by
  have := hs
  rw [← hsp] at this
  exact (List.pairwise_append.1 this).2.1
 generalize w.dropWhile (fun y => decide (y < x)) = b at *
 cases b with
 | nil => simp at hd
 | cons y t =>
  have hy := h2 y t rfl
  generalize h - ps w x = k at *
  cases k with
  | zero => exact hy
  | succ k =>
   have hk : k < t.length := by simpa using hd
   have := (List.pairwise_cons.1 hss).1 t[k] (List.getElem_mem hk)
   simp only [List.getElem_cons_succ]; omega
theorem Jx {w : List Int} (hs : SS w) {x : Int} (hx : x ∈ w) : ∃ h : ps w x < w.length, w[ps w x] = x := by
 obtain ⟨j, hj, e⟩ := List.getElem_of_mem hx
 have h1 : ps w x ≤ j := Nat.le_of_not_lt fun h => by have := Hv hj h; omega
 have hlt : ps w x < w.length := by omega
 refine ⟨hlt, ?_⟩
 have h2 := Lg hs hlt (Nat.le_refl _)
 rcases Nat.lt_or_ge (ps w x) j with h | h
 ·have := List.pairwise_iff_getElem.1 hs _ _ hlt hj h; omega
 ·have key : ∀ k (hk : k < w.length), k = j → w[k] = x := fun k hk hkj => by subst hkj; exact e
  exact key _ hlt (by omega)
theorem OB {w : List Int} (hs : SS w) (hl : w.length ≤ 10000000) (hr : np w) {x : Int} (hx : -2000000000000000000 ≤ x ∧ x ≤ 2000000000000000000) : ∀ (m f i j : Nat), i + m = j → m < f → i ≤ ps w x → ps w x ≤ j → j ≤ w.length →
  ∃ b, ay w x f (i : Int) (j : Int) = some (((ps w x : Nat) : Int), b) := by
 intro m
 induction m using Nat.strongRecOn with
 | ind m ih =>
  intro f i j hm hf h1 h2 h3
  obtain ⟨f, rfl⟩ := aL hf
  rw [ay]
  by_cases hij : i < j
  ·have hh : (i + j) / 2 < w.length := by omega
   have hwx := hr.get hh
   have e1 : ((IntKind.u64.wrap (IntKind.i64.wrap ((i : Int) + (j : Int)))).fdiv (2 ^ (min (1 : Int).toNat (IntKind.u64).bits))) = (((i + j) / 2 : Nat) : Int) := by
    rw [hJ (by omega) (by omega), rA, show ((i : Int) + (j : Int)) % 18446744073709551616 = ((i + j : Nat) : Int) by omega]
    exact Nt (i + j) 1 (by decide)
   rw [aU hij, aE, e1, ab, hJ (x := (((i + j) / 2 : Nat) : Int)) (by omega) (by omega), aH hh, ab]
   unfold ke
   rw [ab, hJ (x := w[(i + j) / 2] - x) (by omega) (by omega)]
   by_cases hc : w[(i + j) / 2] < x
   ·have hlt : (i + j) / 2 < ps w x := Nat.lt_of_not_le fun h => by have := Lg hs hh h; omega
    rw [decide_eq_true (by omega), aE, hJ (x := (((i + j) / 2 : Nat) : Int) + 1) (by omega) (by omega), show (((i + j) / 2 : Nat) : Int) + 1 = (((i + j) / 2 + 1 : Nat) : Int) by omega]
    exact ih (j - ((i + j) / 2 + 1)) (by omega) f _ j (by omega) (by omega) (by omega) h2 h3
   ·have hge : ps w x ≤ (i + j) / 2 := Nat.le_of_not_lt fun h => hc (Hv hh h)
    rw [decide_eq_false (by omega), aj]
    exact ih ((i + j) / 2 - i) (by omega) f i _ (by omega) (by omega) h1 hge (by omega)
  ·have hi : i = ps w x := by omega
   clear ih
   subst hi
   rw [bL hij, aj]
   unfold bN bp ke
   by_cases hil : ps w x < w.length
   ·rw [aU hil, aE, aH hil, ab, ab]; exact ⟨_, rfl⟩
   ·rw [bL hil, aj]; exact ⟨_, rfl⟩
theorem Nw {w : List Int} (hs : SS w) (hl : w.length ≤ 10000000) {x : Int} (hx : x ∈ w) : ∀ (m f i : Nat), i + m = ps w x → m < f → fT w x f (i : Int) = some ((ps w x : Nat) : Int) := by
 obtain ⟨hlt, he⟩ := Jx hs hx
 intro m
 induction m with
 | zero =>
  intro f i hi hf
  obtain ⟨f, rfl⟩ := aL hf
  have : i = ps w x := by omega
  rw [fT, this, aU hlt, aE, aH hlt, ab, he, show (x == x) = true by simp, aE]
 | succ m ih =>
  intro f i hi hf
  obtain ⟨f, rfl⟩ := aL hf
  have hil : i < w.length := by omega
  have := Hv hil (show i < ps w x by omega)
  rw [fT, aU hil, aE, aH hil, ab, show (w[i] == x) = false by simp; omega, aj, al hil (by omega)]
  exact ih f (i + 1) (by omega) (by omega)
def ra (w l : List Int) : List Int := l.map fun x => ((ps w x : Nat) : Int)
theorem DI (w : List Int) (x : Int) (t : List Int) : ra w (x :: t) = ((ps w x : Nat) : Int) :: ra w t := rfl
theorem IT {l w : List Int} (hs : SS w) (hw : np w) (hl : l.length ≤ 10000000) (hwl : w.length ≤ 10000000) (hr : np l) : ∀ (m f i : Nat) (b : List Int), i + m = l.length → m < f → b.length ≤ i →
  aQ l w f b (i : Int) = some (w, b ++ ra w (l.drop i)) := by
 intro m
 induction m with
 | zero =>
  intro f i b hi hf hb
  obtain ⟨f, rfl⟩ := aL hf
  rw [aQ, bL (by omega), aj, List.drop_of_length_le (by omega)]
  simp [dK, ra]
 | succ m ih =>
  intro f i b hi hf hb
  obtain ⟨f, rfl⟩ := aL hf
  have hil : i < l.length := by omega
  have hx := hr.get hil
  obtain ⟨fl, hbn⟩ := OB hs hwl hw hx w.length aK 0 w.length (by omega) (by rw [cI]; omega) (Nat.zero_le _) (Jz _ _) (Nat.le_refl _)
  rw [aQ, aU hil, aE, aH hil, ab]
  unfold bw
  rw [show ((0 : Nat) : Int) = 0 from rfl] at hbn
  rw [hbn, ab, aJ (by omega), al hil (by omega), ih f (i + 1) _ (by omega) (by omega) (by simp; omega), jA hil, DI]
  simp only [List.append_assoc, List.singleton_append]
theorem Ej {l : List Int} (hl : l.length ≤ 10000000) (hr : np l) : cF l = some (ws l, ra (ws l) l) := by
 obtain ⟨w1, w2, w3⟩ := yn l
 have hw : np (ws l) := fun x hx => hr x ((w2 x).1 hx)
 unfold cF
 by_cases h0 : 0 < l.length
 ·have hne : l ≠ [] := fun e => by rw [e] at h0; simp at h0
  have hms : ∀ x ∈ l.mergeSort (fun x y => decide (x ≤ y)), -2000000000000000000 ≤ x ∧ x ≤ 2000000000000000000 := fun x hx => hr x (List.mem_mergeSort.1 hx)
  have hp := IT w1 hw hl (by omega) hr l.length aK 0 [] (by omega) (by rw [cI]; omega) (by simp)
  rw [show ((0 : Nat) : Int) = 0 from rfl, List.nil_append, List.drop_zero] at hp
  rw [decide_eq_true h0, aE]
  unfold lS jQ iG
  rw [aJ hne, aJ (by simp; omega), ab, List.nil_append, aJ (show ∀ x ∈ l, -2000000000000000000 ≤ x ∧ x ≤ 2000000000000000000 from hr), aJ (by omega), ab, aJ (by simp), aJ hms, aJ (by simp; omega), ab]
  exact hp
 ·have he : l = [] := List.length_eq_zero_iff.1 (by omega)
  subst he
  have hws : ws [] = [] := List.length_eq_zero_iff.1 (by simpa using w3)
  rw [hws]
  rfl
theorem IR {l w : List Int} (q : Int → List Int → Option (List Int)) (hs : SS w) (hl : l.length ≤ 10000000) (hwl : w.length ≤ 10000000) (hm : ∀ x ∈ l, x ∈ w) : ∀ (m f i : Nat) (b : List Int), i + m = l.length → m < f → b.length ≤ i →
  gI q l w f b (i : Int) = mL q w (b ++ ra w (l.drop i)) := by
 intro m
 induction m with
 | zero =>
  intro f i b hi hf hb
  obtain ⟨f, rfl⟩ := aL hf
  rw [gI, bL (by omega), aj, List.drop_of_length_le (by omega)]
  simp [ra]
 | succ m ih =>
  intro f i b hi hf hb
  obtain ⟨f, rfl⟩ := aL hf
  have hil : i < l.length := by omega
  have hx := hm _ (List.getElem_mem hil)
  have hp := Nw hs hwl hx (ps w l[i]) aK 0 (by omega) (by rw [cI]; have := Jz w l[i]; omega)
  rw [show ((0 : Nat) : Int) = 0 from rfl] at hp
  rw [gI, aU hil, aE, aH hil, ab]
  unfold rD
  rw [hp, ab, aJ (by omega), al hil (by omega), ih f (i + 1) _ (by omega) (by omega) (by simp; omega), jA hil, DI]
  simp only [List.append_assoc, List.singleton_append]
def eW (l : List Int) : List Int := vi (ws l).length ++ eD 0 (ws l) ++ eF (ra (ws l) l)
def enc (kind : Int) (l : List Int) : List Int :=
 if kind = 1 then eR l else if kind = 2 then eD 0 l else if kind = 3 then eF l else if kind = 4 then eW l else eP l
theorem Dq : ∀ (k f n : Nat) (b : List Int), n < 128 ^ (k + 1) → k < f → b.length + k + 1 ≤ 4294967296 → fy f b (n : Int) = some (b ++ vi n)
 | k, 0, n, b, _, hf, _ => by omega
 | k, f + 1, n, b, hn, hf, hb => by
  rw [fy]
  by_cases h : n < 128
  ·rw [decide_eq_false (by omega), aj]
   unfold nn
   rw [aJ (by omega), ik h, Ll]
   congr 3
   omega
  ·cases k with
   | zero => simp at hn; omega
   | succ k =>
    rw [decide_eq_true (by omega), aE, Fh, ab, aJ (by omega), Lh]
    have : n / 128 < 128 ^ (k + 1) := by
     refine Nat.div_lt_of_lt_mul ?_
     rw [Nat.pow_succ] at hn; omega
    rw [Dq k f (n / 128) _ this (by omega) (by simp; omega), nT h]
    simp
theorem yj {n : Nat} (hn : n < 18446744073709551616) : mR (n : Int) = some (vi n) := by
 have := Dq 9 aK n [] (by omega) (by rw [cI]; omega) (by simp)
 rw [List.nil_append] at this
 exact this
theorem zS : ∀ (l : List Int) (p : Int), np l → -2000000000000000000 ≤ p ∧ p ≤ 2000000000000000000 → (eD p l).length ≤ 10 * l.length
 | [], _, _, _ => by simp [eD]
 | n :: t, p, hr, hp => by
  have hn := hr n (List.mem_cons_self ..)
  have := zS t n (fun x hx => hr x (List.mem_cons_of_mem _ hx)) hn
  have := pC (n := n - p) (by omega)
  simp only [eD, List.length_append, List.length_cons]; omega
theorem vQ {l : List Int} (hl : l.length ≤ 10000000) (hr : np l) : (eF l).length ≤ 700000000 := by
 cases l with
 | nil => simp [eF]
 | cons x t =>
  have hF := GW hl hr
  have hpl := B8 hF.fit
  have hm : (x :: t).length * bl (xe x t - vm x t).toNat ≤ 10000000 * 62 := Nat.mul_le_mul hl hF.fit.w62
  have := pC (n := vm x t) (by have := hF.mr; omega)
  rw [List.length_map] at hpl
  simp only [eF, List.length_append, List.length_singleton]; omega
theorem uH {w l : List Int} (hw : w.length ≤ 10000000) : np (ra w l) := by
 intro x hx
 obtain ⟨y, _, rfl⟩ := List.mem_map.1 hx
 have := Jz w y
 omega
theorem GR {l : List Int} (hl : l.length ≤ 10000000) (hr : np l) (kind : Int) : nN kind l = some (enc kind l) := by
 unfold nN enc
 by_cases h1 : kind = 1
 ·have h := MF hl hr l.length aK 0 [] (by omega) (by rw [cI]; omega) (by simp; omega)
  rw [show ((0 : Nat) : Int) = 0 from rfl, List.nil_append, List.drop_zero] at h
  unfold uf
  rw [h1, show ((1 : Int) == 1) = true from rfl, aE, if_pos rfl, h]; rfl
 rw [show (kind == 1) = false by simp [h1], aj, if_neg h1]
 have hdel : ∀ w : List Int, w.length ≤ 10000000 → np w → nO w = some (eD 0 w) := fun w hwl hw => by
  have h := Kv hwl hw w.length aK 0 [] (by omega) (by rw [cI]; omega) (by simp; omega)
  rw [show ((0 : Nat) : Int) = 0 from rfl, List.nil_append, List.drop_zero, show pv w 0 = 0 from rfl] at h
  unfold nO iu
  rw [h]; rfl
 by_cases h2 : kind = 2
 ·rw [h2, show ((2 : Int) == 2) = true from rfl, aE, if_pos rfl, hdel l hl hr]; rfl
 rw [show (kind == 2) = false by simp [h2], aj, if_neg h2]
 by_cases h3 : kind = 3
 ·rw [h3, show ((3 : Int) == 3) = true from rfl, aE, if_pos rfl, Bj hl hr]; rfl
 rw [show (kind == 3) = false by simp [h3], aj, if_neg h3]
 by_cases h4 : kind = 4
 ·obtain ⟨w1, w2, w3⟩ := yn l
  have hw : np (ws l) := fun x hx => hr x ((w2 x).1 hx)
  have hpl : (ra (ws l) l).length = l.length := by simp [ra]
  have hpi : np (ra (ws l) l) := uH (by omega)
  have n1 := gQ (n := (ws l).length) (by omega)
  have n2 := zS (ws l) 0 hw (by omega)
  have n3 := vQ (l := ra (ws l) l) (by omega) hpi
  rw [h4, show ((4 : Int) == 4) = true from rfl, aE, if_pos rfl, Ej hl hr, ab]
  simp only
  rw [rA, show ((ws l).length : Int) % 18446744073709551616 = ((ws l).length : Int) by omega, yj (by omega), ab, hdel _ (by omega) hw, ab, aJ (by omega), Bj (by omega) hpi, ab, aJ (by rw [List.length_append]; omega)]
  rfl
 ·have h := KN hl hr l.length aK 0 [] (by omega) (by rw [cI]; omega) (by simp; omega)
  rw [show ((0 : Nat) : Int) = 0 from rfl, List.nil_append, List.drop_zero] at h
  unfold gM
  rw [show (kind == 4) = false by simp [h4], aj, if_neg h4, h]; rfl
theorem EA {l : List Int} (hl : l.length ≤ 10000000) (hr : np l) (k : Nat) : cS (k + 1) 2 l = some (eD 0 l) := by
 have h := F9 hl hr l.length aK 0 [] 0 (by omega) (by rw [cI]; omega) (by simp; omega) (by omega)
 rw [show ((0 : Nat) : Int) = 0 from rfl, List.nil_append, List.drop_zero] at h
 rw [cS]
 rw [show ((2 : Int) == 0) = false from rfl, aj, show ((2 : Int) == 1) = false from rfl, aj, show ((2 : Int) == 2) = true from rfl, aE, h]
theorem rR {l : List Int} (hl : l.length ≤ 10000000) (hr : np l) {kind : Int} (hk : 0 ≤ kind ∧ kind ≤ 4) (k : Nat) : cS (k + 2) kind l = some (enc kind l) := by
 rw [cS]
 unfold enc
 by_cases h0 : kind = 0
 ·have h := Kk hl hr l.length aK 0 [] (by omega) (by rw [cI]; omega) (by simp; omega)
  rw [show ((0 : Nat) : Int) = 0 from rfl, List.nil_append, List.drop_zero] at h
  subst h0
  rw [show ((0 : Int) == 0) = true from rfl, aE, h]; rfl
 rw [show (kind == 0) = false by simp [h0], aj]
 by_cases h1 : kind = 1
 ·have h := L1 hl hr l.length aK 0 [] (by omega) (by rw [cI]; omega) (by simp; omega)
  rw [show ((0 : Nat) : Int) = 0 from rfl, List.nil_append, List.drop_zero] at h
  rw [h1, show ((1 : Int) == 1) = true from rfl, aE, if_pos rfl, h]
 rw [show (kind == 1) = false by simp [h1], aj, if_neg h1]
 by_cases h2 : kind = 2
 ·have h := F9 hl hr l.length aK 0 [] 0 (by omega) (by rw [cI]; omega) (by simp; omega) (by omega)
  rw [show ((0 : Nat) : Int) = 0 from rfl, List.nil_append, List.drop_zero] at h
  rw [h2, show ((2 : Int) == 2) = true from rfl, aE, if_pos rfl, h]
 rw [show (kind == 2) = false by simp [h2], aj, if_neg h2]
 by_cases h3 : kind = 3
 ·rw [h3, show ((3 : Int) == 3) = true from rfl, aE, if_pos rfl, Bz hl hr]; rfl
 rw [show (kind == 3) = false by simp [h3], aj, if_neg h3]
 have h4 : kind = 4 := by omega
 obtain ⟨w1, w2, w3⟩ := yn l
 have hw : np (ws l) := fun x hx => hr x ((w2 x).1 hx)
 have hpl : (ra (ws l) l).length = l.length := by simp [ra]
 have hpi : np (ra (ws l) l) := uH (by omega)
 have n1 := gQ (n := (ws l).length) (by omega)
 have n2 := zS (ws l) 0 hw (by omega)
 have n3 := vQ (l := ra (ws l) l) (by omega) hpi
 have hp := IR (cS (k + 1)) w1 hl (by omega) (fun x hx => (w2 x).2 hx) l.length aK 0 [] (by omega) (by rw [cI]; omega) (by simp)
 rw [show ((0 : Nat) : Int) = 0 from rfl, List.nil_append, List.drop_zero] at hp
 rw [if_pos h4, PH hl, ab, hp]
 unfold mL fm
 rw [rA, show ((ws l).length : Int) % 18446744073709551616 = ((ws l).length : Int) by omega, lJ (by omega), ab, EA (by omega) hw, ab, aJ (by omega), Bz (by omega) hpi, ab, aJ (by rw [List.length_append]; omega)]
 rfl
end Go.Proofs.YtnecojeemmnnaaaGreatDoor
namespace Go.Proofs.YtnecojeemmnnaaaGreatDoor
open Go Go.SX Go.SX.Cal
def nk {α : Type} (x : Option α) (P : α → Prop) : Prop := ∃ r, x = some r ∧ P r
theorem fc {α β : Type} {x : Option α} {f : α → Option β} {P : α → Prop} {Q : β → Prop} (h : nk x P) (k : ∀ r, P r → nk (f r) Q) : nk (aw x f) Q := by
 obtain ⟨r, rfl, hr⟩ := h; exact k r hr
theorem p5 {α β : Type} {a : α} {f : α → Option β} {Q : β → Prop} (k : nk (f a) Q) : nk (aw (some a) f) Q := k
theorem bz {β : Type} {b : Bool} {x y : Option β} {Q : β → Prop} (h : b = true → nk x Q) (k : b = false → nk y Q) : nk (aq b x y) Q := by
 cases b
 ·exact k rfl
 ·exact h rfl
theorem pp {β : Type} {p : Prop} [Decidable p] {x : Option β} {Q : β → Prop} (hp : p) (h : nk x Q) : nk (cr p x) Q := by rw [aJ hp]; exact h
theorem tS {β : Type} {r : β} {Q : β → Prop} (h : Q r) : nk (some r) Q := ⟨r, rfl, h⟩
theorem nk.mono {α : Type} {x : Option α} {P Q : α → Prop} (h : nk x P) (k : ∀ r, P r → Q r) : nk x Q := by
 obtain ⟨r, e, hr⟩ := h; exact ⟨r, e, k r hr⟩
def CB (N : Nat) (c : ac) : Prop := gU c.b ∧ c.b.length ≤ N
theorem CB.bad {N : Nat} {c : ac} (h : CB N c) (x : Bool) : CB N ⟨c.b, x⟩ := h
theorem l0 {b : List Int} (h : gU b) (n : Nat) : gU (b.drop n) := fun e he => h e (List.mem_of_mem_drop he)
theorem u7 {b : List Int} (h : gU b) (n : Nat) : gU (b.take n) := fun e he => h e (List.mem_of_mem_take he)
theorem yI {n : Nat} {b : List Int} (h : n ≤ b.length) : cx (n : Int) ⟨b, false⟩ = some (b.take n, ⟨b.drop n, false⟩) := by
 unfold cx dV
 simp only
 rw [aj, decide_eq_false (by omega), aj, decide_eq_false (by omega), aj, aJ (by omega), aJ (by omega)]
 simp
theorem CJ {N : Nat} {n : Int} {c : ac} (hc : CB N c) : nk (cx n c) fun r => gU r.1 ∧ CB N r.2 ∧ (r.2.bad = false → (r.1.length : Int) = n ∧ c.bad = false) := by
 unfold cx dV
 refine bz (fun h => ?_) fun h0 => ?_
 ·exact tS ⟨(fun e he => by cases he), hc, (fun h => by cases h)⟩
 refine bz (fun h => ?_) fun h1 => ?_
 ·exact tS ⟨(fun e he => by cases he), hc, (fun h => by cases h)⟩
 refine bz (fun h => ?_) fun h2 => ?_
 ·exact tS ⟨(fun e he => by cases he), hc, (fun h => by cases h)⟩
 have h1' := of_decide_eq_false h1
 have h2' := of_decide_eq_false h2
 refine pp (by omega) (pp (by omega) (tS ⟨?_, ⟨l0 hc.1 _, ?_⟩, fun _ => ⟨?_, h0⟩⟩))
 ·exact u7 (l0 hc.1 _) _
 ·have := hc.2; simp only [List.length_drop]; omega
 ·simp; omega
theorem uw {e : Int} {t : List Int} (h : 0 ≤ e ∧ e ≤ 255) : eo ⟨e :: t, false⟩ = some (e, ⟨t, false⟩) := by
 unfold eo
 rw [show (1 : Int) = ((1 : Nat) : Int) from rfl, yI (by simp), ab]
 simp only
 rw [aj]
 show aw (at? [e] 0) _ = _
 rw [show (0 : Int) = ((0 : Nat) : Int) from rfl, aH (show 0 < [e].length by simp), ab]
 simp only [List.getElem_cons_zero]
 rw [hJ (by omega) (by omega)]; rfl
theorem zR {N : Nat} {c : ac} (hc : CB N c) : nk (eo c) fun r => (0 ≤ r.1 ∧ r.1 ≤ 255) ∧ CB N r.2 := by
 unfold eo
 refine fc (CJ hc) fun r hr => bz (fun h => tS ⟨by omega, hr.2.1⟩) fun h => ?_
 obtain ⟨e1, _⟩ := hr.2.2 h
 have hl : 0 < r.1.length := by omega
 rw [show (0 : Int) = ((0 : Nat) : Int) from rfl, aH hl]
 have hb := hr.1 _ (List.getElem_mem hl)
 refine p5 (tS ⟨?_, hr.2.1⟩)
 simp only
 rw [hJ (by omega) (by omega)]; exact hb
theorem MH : ∀ m, m < 256 → m &&& 127 = m % 128 := by decide +kernel
theorem ML {c : Nat} (h : c < 256) : IntKind.i64.wrap ((BitVec.ofInt (IntKind.i64).bits (c : Int) &&& BitVec.ofInt (IntKind.i64).bits (127 : Int)).toNat : Int) = ((c % 128 : Nat) : Int) := by
 have h1 : (BitVec.ofInt (IntKind.i64).bits (c : Int)).toNat = c := xb c (by omega)
 have h2 : (BitVec.ofInt (IntKind.i64).bits (127 : Int)).toNat = 127 := by decide
 rw [BitVec.toNat_and, h1, h2, MH _ h, hJ (by omega) (by omega)]
theorem B4 {a d i : Nat} (ha : a < 2 ^ (7 * i)) (hi : i ≤ 9) (hd : d < 128) (hf : a + 2 ^ (7 * i) * d < 18446744073709551616) :
  IntKind.u64.wrap ((BitVec.ofInt (IntKind.u64).bits (a : Int) ||| BitVec.ofInt (IntKind.u64).bits (IntKind.u64.wrap ((IntKind.u64.wrap ((d : Nat) : Int)) * 2 ^ (min ((7 * i : Nat) : Int).toNat (IntKind.u64).bits)))).toNat : Int) = ((a + 2 ^ (7 * i) * d : Nat) : Int) := by
 have hm : min ((7 * i : Nat) : Int).toNat (IntKind.u64).bits = 7 * i := by show min ((7 * i : Nat) : Int).toNat 64 = _; omega
 have hp : 0 < 2 ^ (7 * i) := Nat.pow_pos (by decide)
 rw [hm]
 have hcast : ((d : Nat) : Int) * 2 ^ (7 * i) = ((2 ^ (7 * i) * d : Nat) : Int) := by push_cast; rw [Int.mul_comm]
 have hlt : 2 ^ (7 * i) * d < 18446744073709551616 := by omega
 generalize hQ : 2 ^ (7 * i) * d = Q at *
 have e1 : IntKind.u64.wrap ((d : Nat) : Int) = ((d : Nat) : Int) := by rw [rA]; omega
 have e2 : IntKind.u64.wrap ((Q : Nat) : Int) = ((Q : Nat) : Int) := by rw [rA]; omega
 rw [e1, hcast, e2]
 have h1 : (BitVec.ofInt (IntKind.u64).bits (a : Int)).toNat = a := xb a (by omega)
 have h2 : (BitVec.ofInt (IntKind.u64).bits (Q : Int)).toNat = Q := xb Q (by omega)
 rw [BitVec.toNat_or, h1, h2, ← hQ, Nat.or_comm, ← Nat.two_pow_add_eq_or_of_lt ha, rA, hQ]
 omega
theorem M9 : ∀ (m f i a n : Nat) (t : List Int), i + m = 9 → m < f → a < 2 ^ (7 * i) → a + 2 ^ (7 * i) * n < 18446744073709551616 →
  aR f (vi n ++ t) false (a : Int) ((7 * i : Nat) : Int) = some (((a + 2 ^ (7 * i) * n : Nat) : Int), ⟨t, false⟩) := by
 intro m
 induction m with
 | zero =>
  intro f i a n t hi hf ha hn
  obtain ⟨f, rfl⟩ := aL hf
  obtain rfl : i = 9 := by omega
  have hp : (2 : Nat) ^ (7 * 9) = 9223372036854775808 := by decide
  have hn2 : n < 2 := by rw [hp] at hn; omega
  rw [aR, decide_eq_true (by omega), aE, ik (by omega), List.singleton_append, uw (by omega), ab, show (((7 * 9 : Nat) : Int) == (63 : Int)) = true from rfl, aE]
  unfold cq
  simp only
  rw [decide_eq_false (by omega), aj, ML (by omega), ab, aJ (by omega), ab, show n % 128 = n by omega, B4 ha (by omega) (by omega) hn, ab, decide_eq_true (by omega), aE]
 | succ m ih =>
  intro f i a n t hi hf ha hn
  obtain ⟨f, rfl⟩ := aL hf
  have h63 : (((7 * i : Nat) : Int) == (63 : Int)) = false := by rw [beq_eq_false_iff_ne]; omega
  by_cases h : n < 128
  ·rw [aR, decide_eq_true (by omega), aE, ik h, List.singleton_append, uw (by omega), ab, h63, aj]
   unfold cq
   simp only
   rw [aj, ML (by omega), ab, aJ (by omega), ab, show n % 128 = n by omega, B4 ha (by omega) h hn, ab, decide_eq_true (by omega), aE]
  ·have hp : 0 < 2 ^ (7 * i) := Nat.pow_pos (by decide)
   have hsp : 2 ^ (7 * i) * n = 2 ^ (7 * i) * (n % 128) + 2 ^ (7 * (i + 1)) * (n / 128) := by
    rw [show 7 * (i + 1) = 7 * i + 7 by omega, Nat.pow_add, Nat.mul_assoc, ← Nat.mul_add]
    congr 1
    have := Nat.div_add_mod n 128
    omega
   have hd : n % 128 < 128 := Nat.mod_lt _ (by decide)
   have hlt2 : a + 2 ^ (7 * i) * (n % 128) < 2 ^ (7 * (i + 1)) := by
    have h1 : 2 ^ (7 * i) * (n % 128) ≤ 2 ^ (7 * i) * 127 := Nat.mul_le_mul_left _ (by omega)
    rw [show 7 * (i + 1) = 7 * i + 7 by omega, Nat.pow_add]
    omega
   rw [aR, decide_eq_true (by omega), aE, nT h, List.cons_append, uw (by omega), ab, h63, aj]
   unfold cq
   simp only
   rw [aj, ML (by omega), ab, aJ (by omega), ab, show (n % 128 + 128) % 128 = n % 128 by omega, B4 ha (by omega) hd (by omega), ab, decide_eq_false (by omega), aj, hJ (by omega) (by omega)]
   have := ih f (i + 1) (a + 2 ^ (7 * i) * (n % 128)) (n / 128) t (by omega) (by omega) hlt2 (by omega)
   rw [show ((7 * i : Nat) : Int) + 7 = ((7 * (i + 1) : Nat) : Int) by omega, this, hsp, Nat.add_assoc]
theorem II {n : Nat} {t : List Int} (h : n < 18446744073709551616) : iJ ⟨vi n ++ t, false⟩ = some ((n : Int), ⟨t, false⟩) := by
 have := M9 9 aK 0 0 n t (by omega) (by rw [cI]; omega) (by decide) (by simpa using h)
 unfold iJ
 simpa using this
theorem Kn {N : Nat} : ∀ (m f : Nat) (b : List Int) (bad : Bool) (a : Int) (s : Nat), CB N ⟨b, bad⟩ → s + 7 * m ≥ 64 → s ≤ 100 → m < f → nk (aR f b bad a (s : Int)) fun r => CB N r.2 := by
 intro m
 induction m with
 | zero =>
  intro f b bad a s hc hs h100 hf
  obtain ⟨f, rfl⟩ := aL hf
  rw [aR, decide_eq_false (by omega), aj]
  exact tS hc
 | succ m ih =>
  intro f b bad a s hc hs h100 hf
  obtain ⟨f, rfl⟩ := aL hf
  rw [aR]
  refine bz (fun h => ?_) fun _ => tS hc
  have h' := of_decide_eq_true h
  refine fc (zR hc) fun r hr => ?_
  have key : ∀ x, nk (cq (aR f) a (s : Int) r x) fun r => CB N r.2 := by
   intro x
   unfold cq
   refine bz (fun _ => tS hr.2) fun _ => p5 (pp (by omega) (p5 (p5 (bz (fun _ => tS hr.2) fun _ => ?_))))
   rw [hJ (x := (s : Int) + 7) (by omega) (by omega), show (s : Int) + 7 = ((s + 7 : Nat) : Int) by omega]
   exact ih f _ _ _ (s + 7) hr.2 (by omega) (by omega) (by omega)
  exact bz (fun _ => key _) fun _ => key _
theorem BA {N : Nat} {c : ac} (hc : CB N c) : nk (iJ c) fun r => CB N r.2 :=
 Kn 10 aK c.b c.bad 0 0 hc (by omega) (by omega) (by rw [cI]; omega)
theorem xU {n : Nat} {t : List Int} (h : n ≤ 4611686018427387904) : bE ⟨vi n ++ t, false⟩ = some ((n : Int), ⟨t, false⟩) := by
 unfold bE
 rw [II (by omega), ab, decide_eq_false (by omega), aj]
 simp only
 rw [hJ (by omega) (by omega)]
theorem Ft {N : Nat} {c : ac} (hc : CB N c) : nk (bE c) fun r => CB N r.2 := by
 unfold bE
 exact fc (BA hc) fun r hr => bz (fun _ => tS hr) fun _ => tS hr
theorem Pp (x : Nat) (h : x < 18446744073709551616) : IntKind.u64.wrap ((BitVec.ofInt (IntKind.u64).bits (x : Int) &&& BitVec.ofInt (IntKind.u64).bits (1 : Int)).toNat : Int) = ((x % 2 : Nat) : Int) := by
 have h1 : (BitVec.ofInt (IntKind.u64).bits (x : Int)).toNat = x := xb x h
 have h2 : (BitVec.ofInt (IntKind.u64).bits (1 : Int)).toNat = 1 := by decide
 rw [BitVec.toNat_and, h1, h2, Nat.and_one_is_mod, rA]
 omega
theorem Bi {n : Int} {t : List Int} (h : -4611686018427387903 ≤ n ∧ n ≤ 4611686018427387903) : cR ⟨sg n ++ t, false⟩ = some (n, ⟨t, false⟩) := by
 unfold cR sg
 have hz : zz n < 9223372036854775808 := by unfold zz; split <;> omega
 have hq : ((zz n : Nat) : Int).fdiv (2 ^ (min (1 : Int).toNat (IntKind.u64).bits)) = ((zz n / 2 : Nat) : Int) := Nt (zz n) 1 (by decide)
 rw [II (by omega), ab]
 simp only
 rw [hq, hJ (x := ((zz n / 2 : Nat) : Int)) (by omega) (by omega), ab, Pp _ (by omega), ab, hJ (x := ((zz n % 2 : Nat) : Int)) (by omega) (by omega), hJ (x := 0 - ((zz n % 2 : Nat) : Int)) (by omega) (by omega)]
 have toN : ∀ x : Nat, x < 18446744073709551616 → (BitVec.ofInt (IntKind.i64).bits (x : Int)).toNat = x := fun x hx => xb x hx
 by_cases hn : n < 0
 ·have e1 : zz n % 2 = 1 := by unfold zz; rw [if_pos hn]; omega
  have e2 : (zz n / 2 : Nat) = (-n - 1).toNat := by unfold zz; rw [if_pos hn]; omega
  have e3 : (BitVec.ofInt (IntKind.i64).bits (0 - ((1 : Nat) : Int))).toNat = 18446744073709551615 := by decide
  rw [e1, e2, BitVec.toNat_xor, toN _ (by omega), e3, Cy _ (by omega), ab]
  congr 2
  rw [show ((18446744073709551615 - (-n - 1).toNat : Nat) : Int) = n + 18446744073709551616 by omega]
  unfold IntKind.wrap; simp [IntKind.bits, IntKind.signed]; omega
 ·have e1 : zz n % 2 = 0 := by unfold zz; rw [if_neg hn]; omega
  have e2 : (zz n / 2 : Nat) = n.toNat := by unfold zz; rw [if_neg hn]; omega
  have e3 : (BitVec.ofInt (IntKind.i64).bits (0 - ((0 : Nat) : Int))).toNat = 0 := by decide
  rw [e1, e2, BitVec.toNat_xor, toN _ (by omega), e3, Nat.xor_zero, ab, hJ (x := ((n.toNat : Nat) : Int)) (by omega) (by omega)]
  congr 2
  omega
theorem yC {N : Nat} {c : ac} (hc : CB N c) : nk (cR c) fun r => CB N r.2 := by
 unfold cR
 exact fc (BA hc) fun r hr => p5 (p5 (p5 (tS hr)))
end Go.Proofs.YtnecojeemmnnaaaGreatDoor
namespace Go.Proofs.YtnecojeemmnnaaaGreatDoor
open Go Go.SX Go.SX.Cal
theorem uq {l : List Int} {n : Nat} (h : l.length < n) : decide (((l.length : Nat) : Int) < (n : Int)) = true := decide_eq_true (by omega)
theorem uv {l : List Int} {n : Nat} (h : ¬ l.length < n) : decide (((l.length : Nat) : Int) < (n : Int)) = false := decide_eq_false (by omega)
theorem JA {n : Nat} (hn : n ≤ 1048576) : ∀ (w : List Int) (p : Int) (l t : List Int) (f : Nat), np w → -2000000000000000000 ≤ p ∧ p ≤ 2000000000000000000 → l.length + w.length = n → w.length < f →
  bf (n : Int) f l (eD p w ++ t) false p = some (l ++ w, ⟨t, false⟩)
 | [], p, l, t, f, hr, hp, hl, hf => by
  obtain ⟨f, rfl⟩ := aL hf
  have hl' : l.length = n := hl
  rw [bf, uv (by omega), aj]
  unfold di fG
  rw [aj, List.append_nil]; rfl
 | x :: w, p, l, t, f, hr, hp, hl, hf => by
  obtain ⟨f, rfl⟩ := aL hf
  have hl' : l.length + (w.length + 1) = n := hl
  have hx := hr x (List.mem_cons_self ..)
  rw [bf, uq (by omega), aE]
  unfold di
  rw [Bool.not_false, aE, eD, List.append_assoc, Bi (by omega), ab, aJ (by omega)]
  simp only
  rw [show p + (x - p) = x by omega, hJ (by omega) (by omega), JA hn w x (l ++ [x]) t f (fun y hy => hr y (List.mem_cons_of_mem _ hy)) hx (by simp; omega) (by simp only [List.length_cons] at hf; omega), List.append_assoc]; rfl
theorem Iv {w t : List Int} (hw : w.length ≤ 1048576) (hr : np w) : iw (w.length : Int) ⟨eD 0 w ++ t, false⟩ = some (w, ⟨t, false⟩) := by
 have := JA hw w 0 [] t aK hr (by omega) (by simp) (by rw [cI]; omega)
 rw [List.nil_append] at this
 exact this
abbrev LB (N : Nat) (r : List Int × ac) : Prop := CB N r.2 ∧ r.1.length ≤ 1048576
theorem KV {N : Nat} {n : Int} (hn : n ≤ 1048576) : ∀ (m f : Nat) (l b : List Int) (bad : Bool) (x : Int), CB N ⟨b, bad⟩ → l.length ≤ 1048576 → n ≤ l.length + m → m < f → nk (bf n f l b bad x) (LB N) := by
 intro m
 induction m with
 | zero =>
  intro f l b bad x hc hl hm hf
  obtain ⟨f, rfl⟩ := aL hf
  rw [bf, decide_eq_false (by omega), aj]
  unfold di fG
  exact tS ⟨hc, hl⟩
 | succ m ih =>
  intro f l b bad x hc hl hm hf
  obtain ⟨f, rfl⟩ := aL hf
  rw [bf]
  unfold di fG
  refine bz (fun h => bz (fun _ => ?_) fun _ => tS ⟨hc, hl⟩) fun _ => tS ⟨hc, hl⟩
  have h' := of_decide_eq_true h
  refine fc (yC hc) fun r hr => pp (by omega) (ih f _ _ _ _ hr (by simp; omega) (by simp; omega) (by omega))
theorem Fe {N : Nat} {n : Int} {c : ac} (hn : n ≤ 1048576) (hc : CB N c) : nk (iw n c) (LB N) :=
 KV hn 1048576 aK [] c.b c.bad 0 hc (by simp) (by simp; omega) (by rw [cI]; omega)
theorem Ca (r1 : Int × ac) (r3 : List Int × ac) (r4 : List Int × Bool) (h4 : r4.1.length ≤ 10000000) : ∀ (b a : List Int) (f : Nat), a.length + b.length = r4.1.length → b.length < f →
  bU r1 r3 r4 f (a ++ b) (a.length : Int) = some (a ++ b.map (fun e => IntKind.i64.wrap (e + r1.1)), ⟨r3.2.b, !r4.2⟩)
 | [], a, f, hl, hf => by
  obtain ⟨f, rfl⟩ := aL hf
  have hl' : a.length = r4.1.length := hl
  rw [bU, decide_eq_false (by omega), aj]
  unfold kd
  simp
 | e :: b, a, f, hl, hf => by
  obtain ⟨f, rfl⟩ := aL hf
  have hl' : a.length + (b.length + 1) = r4.1.length := hl
  have hi : a.length < (a ++ e :: b).length := by simp
  have he : (a ++ e :: b)[a.length] = e := by simp
  rw [bU, decide_eq_true (by omega), aE, aH hi, ab, he, Int.toNat_natCast, yA, al (n := r4.1.length) (by omega) (by omega)]
  have := Ca r1 r3 r4 h4 b (a ++ [IntKind.i64.wrap (e + r1.1)]) f (by simp; omega) (by simp only [List.length_cons] at hf; omega)
  rw [List.length_append, List.length_singleton, List.append_assoc, List.singleton_append] at this
  rw [this]
  simp
theorem Ig {l : List Int} (hl : l.length ≤ 1048576) (hr : np l) : dy (l.length : Int) ⟨eF l, false⟩ = some (l, ⟨[], false⟩) := by
 cases l with
 | nil => rfl
 | cons x t =>
  have hF := GW (x := x) (t := t) (by omega) hr
  have hm := hF.mr
  have hw := hF.fit.w62
  have hub := H5 hF.fit
  have hnp := F5 hF.fit hF.lt
  have hlo := hF.lo
  unfold dy
  simp only [eF]
  generalize vm x t = m at *
  generalize bl (xe x t - m).toNat = w at *
  rw [List.length_map] at hub hnp
  rw [show ((((x :: t).length : Nat) : Int) == 0) = false by rw [beq_eq_false_iff_ne]; simp; omega, aj, List.append_assoc, Bi (by omega), ab, List.singleton_append, uw (by omega), ab]
  simp only
  rw [aj, decide_eq_false (by omega)]
  unfold dY
  simp only
  rw [aj, yI (Nat.le_refl _), ab]
  simp only
  rw [List.take_length, List.drop_length, Dc hub, ab, hnp]
  have := Ca (m, ⟨(w : Int) :: pk w ((x :: t).map (· - m)), false⟩) (pk w ((x :: t).map (· - m)), ⟨[], false⟩) ((x :: t).map (· - m), true) (by rw [List.length_map]; omega) ((x :: t).map (· - m)) [] aK (by simp) (by rw [List.length_map, cI]; omega)
  rw [List.nil_append, List.nil_append, List.length_nil] at this
  simp only [beq_self_eq_true]
  rw [show ((0 : Nat) : Int) = 0 from rfl] at this
  rw [this]
  simp only [Bool.not_true]
  congr 2
  rw [List.map_map]
  conv => rhs; rw [← List.map_id (x :: t)]
  refine List.map_congr_left fun y hy => ?_
  have := hr y hy
  have := hlo y hy
  show IntKind.i64.wrap (y - m + m) = y
  rw [show y - m + m = y by omega, hJ (by omega) (by omega)]
theorem Ei {N : Nat} {n : Int} {c : ac} (hn : 0 ≤ n ∧ n ≤ 1048576) (hc : CB N c) : nk (dy n c) (LB N) := by
 unfold dy
 refine bz (fun _ => tS ⟨hc, by simp⟩) fun h0 => fc (yC hc) fun r1 h1 => fc (zR h1) fun r2 h2 => ?_
 have key : ∀ x, (x = false → r2.1 ≤ 62) → nk (dY n r1 r2 x) (LB N) := by
  intro x hx
  unfold dY
  refine bz (fun _ => tS ⟨h2.2, by simp⟩) fun hx' => fc (CJ h2.2) fun r3 h3 => ?_
  have hw := hx hx'
  obtain ⟨w, hwe⟩ : ∃ w : Nat, r2.1 = (w : Int) := ⟨r2.1.toNat, by omega⟩
  obtain ⟨k, hke⟩ : ∃ k : Nat, n = (k : Int) := ⟨n.toNat, by omega⟩
  have hfr : ∀ r4 : List Int × Bool, r4.1.length ≤ 1048576 → nk (bU r1 r3 r4 aK r4.1 0) (LB N) := by
   intro r4 h4
   have := Ca r1 r3 r4 (by omega) r4.1 [] aK (by simp) (by rw [cI]; omega)
   rw [List.nil_append, List.nil_append, List.length_nil, show ((0 : Nat) : Int) = 0 from rfl] at this
   rw [this]
   exact tS ⟨h3.2.1, by simpa using h4⟩
  rw [hwe, hke]
  by_cases hb : r3.1.length = (k * w + 7) / 8
  ·rw [Dc ⟨by omega, by omega, h3.1, hb⟩]
   exact p5 (hfr _ (by simp [nD]; omega))
  ·rw [D3 (by omega) (by omega) hb]
   exact p5 (hfr _ (by simp))
 exact bz (fun _ => key _ (fun h => by cases h)) fun _ => key _ (fun h => by have := of_decide_eq_false h; omega)
theorem EO (x : Int) : ∀ t : List Int, t.takeWhile (· == x) = List.replicate (t.takeWhile (· == x)).length x
 | [] => rfl
 | y :: t => by
  by_cases h : y = x
  ·rw [List.takeWhile_cons, show (y == x) = true by simp [h], if_pos rfl, List.length_cons, List.replicate_succ, ← EO x t, h]
  ·rw [List.takeWhile_cons, show (y == x) = false by simp [h], if_neg (by simp)]; rfl
theorem FZ (rec1 : List Int → List Int → Bool → Option ((List Int) × ac)) (r1 r2 : Int × ac) {c : Nat} (h1 : r1.1 = (c : Int)) (hc : c ≤ 1048576) : ∀ (m f i : Nat) (l : List Int), i + m = c → m < f → l.length + m ≤ 10000000 →
  db rec1 r1 r2 f l (i : Int) = rec1 (l ++ List.replicate m r2.1) r2.2.b r2.2.bad := by
 intro m
 induction m with
 | zero =>
  intro f i l hi hf hl
  obtain ⟨f, rfl⟩ := aL hf
  rw [db, h1, bL (by omega), aj]; simp
 | succ m ih =>
  intro f i l hi hf hl
  obtain ⟨f, rfl⟩ := aL hf
  rw [db, h1, aU (by omega), aE, aJ (by omega), al (n := c) (by omega) (by omega), ih f (i + 1) _ (by omega) (by omega) (by simp; omega), List.append_assoc, List.replicate_succ]; rfl
theorem MD {n : Nat} (hn : n ≤ 1048576) : ∀ (m : Nat) (w : List Int), w.length = m → ∀ (l t : List Int) (f : Nat), np w → l.length + m = n → m < f →
  aT (n : Int) f l (eR w ++ t) false = some (l ++ w, ⟨t, false⟩) := by
 intro m
 induction m using Nat.strongRecOn with
 | ind m ih =>
  intro w hw l t f hr hl hf
  obtain ⟨f, rfl⟩ := aL hf
  cases w with
  | nil =>
   have : m = 0 := by simpa using hw.symm
   rw [aT, uv (by omega), aj]
   unfold dW gX
   rw [aj, List.append_nil, eR]; rfl
  | cons x w =>
   have hx := hr x (List.mem_cons_self ..)
   have hsp : w.takeWhile (· == x) ++ w.dropWhile (· == x) = w := List.takeWhile_append_dropWhile
   have htr := EO x w
   have hlw : (w.takeWhile (· == x)).length + (w.dropWhile (· == x)).length = w.length := by rw [← List.length_append, hsp]
   simp only [List.length_cons] at hw
   rw [aT, uq (by omega), aE]
   unfold dW
   rw [Bool.not_false, aE, u5, List.append_assoc, List.append_assoc, xU (by omega), ab]
   simp only
   rw [Bi (by omega), ab, decide_eq_false (by omega), aj]
   unfold gS
   rw [hJ (by omega) (by omega), decide_eq_false (by omega), aj]
   have ha := FZ (aT (n : Int) f) (((1 + (w.takeWhile (· == x)).length : Nat) : Int), ⟨sg x ++ (eR (w.dropWhile (· == x)) ++ t), false⟩) (x, ⟨eR (w.dropWhile (· == x)) ++ t, false⟩) (c := 1 + (w.takeWhile (· == x)).length) rfl (by omega) (1 + (w.takeWhile (· == x)).length) aK 0 l (by omega) (by rw [cI]; omega) (by omega)
   rw [show ((0 : Nat) : Int) = 0 from rfl] at ha
   rw [ha]
   simp only
   have hi := ih (w.dropWhile (· == x)).length (by omega) (w.dropWhile (· == x)) rfl (l ++ List.replicate (1 + (w.takeWhile (· == x)).length) x) t f (fun y hy => hr y (List.mem_cons_of_mem _ (by rw [← hsp]; exact List.mem_append_right _ hy))) (by simp; omega) (by omega)
   rw [hi, List.append_assoc, Nat.add_comm 1, List.replicate_succ, List.cons_append, ← htr, hsp]
theorem Mi {w t : List Int} (hw : w.length ≤ 1048576) (hr : np w) : kG (w.length : Int) ⟨eR w ++ t, false⟩ = some (w, ⟨t, false⟩) := by
 have := MD hw w.length w rfl [] t aK hr (by simp) (by rw [cI]; omega)
 rw [List.nil_append] at this
 exact this
theorem Kp {N : Nat} {n : Int} (hn : n ≤ 1048576) : ∀ (m f : Nat) (l b : List Int) (bad : Bool), CB N ⟨b, bad⟩ → l.length ≤ 1048576 → n ≤ l.length + m → m < f → nk (aT n f l b bad) (LB N) := by
 intro m
 induction m with
 | zero =>
  intro f l b bad hc hl hm hf
  obtain ⟨f, rfl⟩ := aL hf
  rw [aT, decide_eq_false (by omega), aj]
  unfold dW gX
  exact tS ⟨hc, hl⟩
 | succ m ih =>
  intro f l b bad hc hl hm hf
  obtain ⟨f, rfl⟩ := aL hf
  rw [aT]
  unfold dW gX
  refine bz (fun h => bz (fun _ => ?_) fun _ => tS ⟨hc, hl⟩) fun _ => tS ⟨hc, hl⟩
  have h' := of_decide_eq_true h
  refine fc (Ft hc) fun r1 h1 => fc (yC h1) fun r2 h2 => ?_
  unfold gS
  refine bz (fun _ => bz (fun _ => tS ⟨h2, by simp⟩) (fun h => by cases h)) fun h1' => bz (fun _ => tS ⟨h2, by simp⟩) fun h2' => ?_
  have g1 := of_decide_eq_false h1'
  have g2 := of_decide_eq_false h2'
  rw [hJ (by omega) (by omega)] at g2
  obtain ⟨c, hce⟩ : ∃ c : Nat, r1.1 = (c : Int) := ⟨r1.1.toNat, by omega⟩
  have ha := FZ (aT n f) r1 r2 hce (by omega) c aK 0 l (by omega) (by rw [cI]; omega) (by omega)
  rw [show ((0 : Nat) : Int) = 0 from rfl] at ha
  rw [ha]
  exact ih f _ _ _ h2 (by simp; omega) (by simp; omega) (by omega)
theorem Ks {N : Nat} {n : Int} {c : ac} (hn : n ≤ 1048576) (hc : CB N c) : nk (kG n c) (LB N) :=
 Kp hn 1048576 aK [] c.b c.bad hc (by simp) (by simp; omega) (by rw [cI]; omega)
theorem Lk {n : Nat} (hn : n ≤ 1048576) : ∀ (w l t : List Int) (f : Nat), np w → l.length + w.length = n → w.length < f →
  aX (n : Int) f l (eP w ++ t) false = some (l ++ w, ⟨t, false⟩)
 | [], l, t, f, hr, hl, hf => by
  obtain ⟨f, rfl⟩ := aL hf
  have hl' : l.length = n := hl
  rw [aX, uv (by omega), aj]
  unfold cT fi
  rw [aj, List.append_nil]; rfl
 | x :: w, l, t, f, hr, hl, hf => by
  obtain ⟨f, rfl⟩ := aL hf
  have hl' : l.length + (w.length + 1) = n := hl
  have hx := hr x (List.mem_cons_self ..)
  rw [aX, uq (by omega), aE]
  unfold cT
  rw [Bool.not_false, aE, ui, List.append_assoc, Bi (by omega), ab, aJ (by omega)]
  simp only
  rw [Lk hn w (l ++ [x]) t f (fun y hy => hr y (List.mem_cons_of_mem _ hy)) (by simp; omega) (by simp only [List.length_cons] at hf; omega), List.append_assoc]; rfl
theorem Mg {N : Nat} {n : Int} (hn : n ≤ 1048576) : ∀ (m f : Nat) (l b : List Int) (bad : Bool), CB N ⟨b, bad⟩ → l.length ≤ 1048576 → n ≤ l.length + m → m < f → nk (aX n f l b bad) (LB N) := by
 intro m
 induction m with
 | zero =>
  intro f l b bad hc hl hm hf
  obtain ⟨f, rfl⟩ := aL hf
  rw [aX, decide_eq_false (by omega), aj]
  unfold cT fi
  exact tS ⟨hc, hl⟩
 | succ m ih =>
  intro f l b bad hc hl hm hf
  obtain ⟨f, rfl⟩ := aL hf
  rw [aX]
  unfold cT fi
  refine bz (fun h => bz (fun _ => ?_) fun _ => tS ⟨hc, hl⟩) fun _ => tS ⟨hc, hl⟩
  have h' := of_decide_eq_true h
  refine fc (yC hc) fun r hr => pp (by omega) (ih f _ _ _ hr (by simp; omega) (by simp; omega) (by omega))
theorem Oh {w l : List Int} (c : ac) (hs : SS w) (hw : w.length ≤ 1048576) (hl : l.length ≤ 1048576) (hm : ∀ x ∈ l, x ∈ w) : ∀ (m f i : Nat) (b : List Int), i + m = l.length → m < f → b.length ≤ i →
  bC w (ra w l) c f b (i : Int) = some (b ++ l.drop i, c) := by
 have hpl : (ra w l).length = l.length := by simp [ra]
 intro m
 induction m with
 | zero =>
  intro f i b hi hf hb
  obtain ⟨f, rfl⟩ := aL hf
  rw [bC, hpl, bL (by omega), aj, List.drop_of_length_le (by omega)]
  unfold jL
  simp
 | succ m ih =>
  intro f i b hi hf hb
  obtain ⟨f, rfl⟩ := aL hf
  have hil : i < l.length := by omega
  have hil' : i < (ra w l).length := by omega
  obtain ⟨hp, he⟩ := Jx hs (hm _ (List.getElem_mem hil))
  have hg : (ra w l)[i] = ((ps w l[i] : Nat) : Int) := by simp [ra]
  rw [bC, hpl, aU hil, aE, aH hil', ab, hg, decide_eq_false (by omega), aj, decide_eq_false (by omega)]
  unfold iB
  rw [aj, aH hp, ab, he, aJ (by omega), al hil (by omega), ih f (i + 1) _ (by omega) (by omega) (by simp; omega), jA hil, List.append_assoc]; rfl
theorem M4 {N : Nat} {w ps : List Int} {c : ac} (hc : CB N c) (hps : ps.length ≤ 1048576) : ∀ (m f i : Nat) (b : List Int), i + m = ps.length → m < f → b.length ≤ i → nk (bC w ps c f b (i : Int)) (LB N) := by
 intro m
 induction m with
 | zero =>
  intro f i b hi hf hb
  obtain ⟨f, rfl⟩ := aL hf
  rw [bC, bL (by omega), aj]
  unfold jL
  exact tS ⟨hc, by simp only; omega⟩
 | succ m ih =>
  intro f i b hi hf hb
  obtain ⟨f, rfl⟩ := aL hf
  have hil : i < ps.length := by omega
  rw [bC, aU hil, aE, aH hil, ab]
  unfold iB
  refine bz (fun _ => bz (fun _ => tS ⟨hc, by simp⟩) fun h => by cases h) fun h1 => bz (fun _ => tS ⟨hc, by simp⟩) fun h2 => ?_
  have g1 := of_decide_eq_false h1
  have g2 := of_decide_eq_false h2
  obtain ⟨e, he⟩ : ∃ e : Nat, ps[i] = (e : Int) := ⟨ps[i].toNat, by omega⟩
  rw [he, aH (show e < w.length by omega), al hil (by omega)]
  exact p5 (pp (by omega) (ih f (i + 1) _ (by omega) (by omega) (by simp; omega)))
theorem Ew {l : List Int} (hl : l.length ≤ 1048576) (hr : np l) {kind : Int} (hk : 0 ≤ kind ∧ kind ≤ 4) : fd kind (l.length : Int) ⟨enc kind l, false⟩ = some (l, ⟨[], false⟩) := by
 unfold fd enc
 by_cases h1 : kind = 1
 ·have := Mi (t := []) hl hr
  rw [List.append_nil] at this
  rw [h1, show ((1 : Int) == 1) = true from rfl, aE, if_pos rfl, this]; rfl
 rw [show (kind == 1) = false by simp [h1], aj, if_neg h1]
 by_cases h2 : kind = 2
 ·have := Iv (t := []) hl hr
  rw [List.append_nil] at this
  rw [h2, show ((2 : Int) == 2) = true from rfl, aE, if_pos rfl, this]; rfl
 rw [show (kind == 2) = false by simp [h2], aj, if_neg h2]
 by_cases h3 : kind = 3
 ·rw [h3, show ((3 : Int) == 3) = true from rfl, aE, if_pos rfl, Ig hl hr]; rfl
 rw [show (kind == 3) = false by simp [h3], aj, if_neg h3]
 by_cases h4 : kind = 4
 ·obtain ⟨w1, w2, w3⟩ := yn l
  have hw : np (ws l) := fun x hx => hr x ((w2 x).1 hx)
  have hpl : (ra (ws l) l).length = l.length := by simp [ra]
  have hpi : np (ra (ws l) l) := uH (by omega)
  have hfr := Ig (l := ra (ws l) l) (by omega) hpi
  rw [hpl] at hfr
  rw [h4, show ((4 : Int) == 4) = true from rfl, aE, if_pos rfl]
  unfold eW
  rw [List.append_assoc, xU (by omega), ab]
  simp only
  rw [decide_eq_false (by omega), aj, Iv (by omega) hw, ab]
  simp only
  rw [hfr, ab]
  unfold nG
  have := Oh ⟨[], false⟩ w1 (by omega) hl (fun x hx => (w2 x).2 hx) l.length aK 0 [] (by omega) (by rw [cI]; omega) (by simp)
  rw [List.drop_zero, List.nil_append, show ((0 : Nat) : Int) = 0 from rfl] at this
  simp only
  rw [this, ab]
 ·have := Lk hl l [] [] aK hr (by simp) (by rw [cI]; omega)
  rw [List.append_nil, List.nil_append] at this
  rw [show (kind == 4) = false by simp [h4], aj, if_neg h4, this]
theorem Ma {N : Nat} {c : ac} (hc : CB N c) {n : Int} (hn : 0 ≤ n ∧ n ≤ 1048576) (kind : Int) : nk (fd kind n c) (LB N) := by
 unfold fd
 refine bz (fun _ => fc (Ks hn.2 hc) fun r hr => tS hr) fun _ => bz (fun _ => fc (Fe hn.2 hc) fun r hr => tS hr) fun _ => bz (fun _ => fc (Ei hn hc) fun r hr => tS hr) fun _ => bz (fun _ => ?_) fun _ => ?_
 ·refine fc (Ft hc) fun r4 h4 => bz (fun _ => tS ⟨h4, by simp⟩) fun h => ?_
  have g := of_decide_eq_false h
  refine fc (Fe (by omega) h4) fun r5 h5 => fc (Ei hn h5.1) fun r6 h6 => ?_
  refine fc (P := LB N) ?_ fun r hr => tS hr
  exact M4 h6.1 h6.2 r6.1.length aK 0 [] (by omega) (by rw [cI]; have := h6.2; omega) (by simp)
 ·exact Mg hn.2 1048576 aK [] c.b c.bad hc (by simp) (by simp; omega) (by rw [cI]; omega)
end Go.Proofs.YtnecojeemmnnaaaGreatDoor
namespace Go.Proofs.YtnecojeemmnnaaaGreatDoor
open Go Go.SX Go.SX.Cal
def SB (N : Nat) (c : ar) : Prop := gU c.b ∧ c.b.length ≤ N
theorem nv {e : Int} {t : List Int} {bad : Bool} : ca ⟨e :: t, bad⟩ = some (e, ⟨t, bad⟩) := by
 unfold ca
 simp only
 rw [show ((((e :: t).length : Nat) : Int) == 0) = false by rw [beq_eq_false_iff_ne]; simp; omega, aj, show (0 : Int) = ((0 : Nat) : Int) from rfl, aH (show 0 < (e :: t).length by simp), ab, aJ (by simp; omega)]
 rfl
theorem ki {N : Nat} {c : ar} (hc : SB N c) : nk (ca c) fun r => (0 ≤ r.1 ∧ r.1 ≤ 255) ∧ SB N r.2 := by
 unfold ca
 refine bz (fun _ => tS ⟨by simp, hc⟩) fun h => ?_
 have hl : 0 < c.b.length := by rw [beq_eq_false_iff_ne] at h; omega
 rw [show (0 : Int) = ((0 : Nat) : Int) from rfl, aH hl]
 refine p5 (pp (by omega) (tS ⟨hc.1 _ (List.getElem_mem hl), l0 hc.1 _, ?_⟩))
 have := hc.2; simp only [List.length_drop]; omega
theorem w7 (u : Int) {n : Nat} (h : n < 128) (hu : 0 ≤ u ∧ u ≤ 72057594037927936) : IntKind.i64.wrap (u * IntKind.i64.wrap ((n : Int).tmod 128)) = u * (n : Int) := by
 rw [Int.tmod_eq_emod_of_nonneg (by omega), show (n : Int) % 128 = (n : Int) by omega, hJ (x := (n : Int)) (by omega) (by omega)]
 have h1 : u * (n : Int) ≤ u * 127 := Int.mul_le_mul_of_nonneg_left (by omega) hu.1
 have h2 : 0 ≤ u * (n : Int) := Int.mul_nonneg hu.1 (by omega)
 rw [hJ (by omega) (by omega)]
theorem xX (u : Int) {d : Nat} (h : d < 128) (hu : 0 ≤ u ∧ u ≤ 72057594037927936) : IntKind.i64.wrap (u * IntKind.i64.wrap (((d + 128 : Nat) : Int).tmod 128)) = u * (d : Int) := by
 rw [Int.tmod_eq_emod_of_nonneg (by omega), show ((d + 128 : Nat) : Int) % 128 = (d : Int) by omega, hJ (x := (d : Int)) (by omega) (by omega)]
 have h1 : u * (d : Int) ≤ u * 127 := Int.mul_le_mul_of_nonneg_left (by omega) hu.1
 have h2 : 0 ≤ u * (d : Int) := Int.mul_nonneg hu.1 (by omega)
 rw [hJ (by omega) (by omega)]
theorem sU {n1 : Nat} {t : List Int} (h : n1 < 9223372036854775808) : bT ⟨vi n1 ++ t, false⟩ = some ((n1 : Int), ⟨t, false⟩) := by
 unfold bT
 by_cases h1 : n1 < 128
 ·rw [ik h1, List.singleton_append, nv, ab]
  simp only
  rw [w7 (1) h1 (by omega), ab, decide_eq_true (by omega), aE, aj]
  unfold gB
  simp (disch := omega) only [hJ]
  congr 2
  omega
 ·rw [nT h1, List.cons_append, nv, ab]
  have g1 := Nat.div_add_mod n1 128
  have k1 : n1 % 128 < 128 := Nat.mod_lt _ (by decide)
  generalize n1 % 128 = d1 at *
  generalize n1 / 128 = n2 at *
  simp only
  rw [xX (1) k1 (by omega), ab, decide_eq_false (by omega), aj]
  by_cases h2 : n2 < 128
  ·rw [ik h2, List.singleton_append, nv, ab]
   simp only
   rw [w7 (128) h2 (by omega), ab, decide_eq_true (by omega), aE, aj]
   unfold gr
   simp (disch := omega) only [hJ]
   rw [show (((n2 : Nat) : Int) == 0) = false by rw [beq_eq_false_iff_ne]; omega]
   congr 2
   omega
  ·rw [nT h2, List.cons_append, nv, ab]
   have g2 := Nat.div_add_mod n2 128
   have k2 : n2 % 128 < 128 := Nat.mod_lt _ (by decide)
   generalize n2 % 128 = d2 at *
   generalize n2 / 128 = n3 at *
   simp only
   rw [xX (128) k2 (by omega), ab, decide_eq_false (by omega), aj]
   by_cases h3 : n3 < 128
   ·rw [ik h3, List.singleton_append, nv, ab]
    simp only
    rw [w7 (16384) h3 (by omega), ab, ab, decide_eq_true (by omega), aE, aj]
    unfold gC
    simp (disch := omega) only [hJ]
    rw [show (((n3 : Nat) : Int) == 0) = false by rw [beq_eq_false_iff_ne]; omega]
    congr 2
    omega
   ·rw [nT h3, List.cons_append, nv, ab]
    have g3 := Nat.div_add_mod n3 128
    have k3 : n3 % 128 < 128 := Nat.mod_lt _ (by decide)
    generalize n3 % 128 = d3 at *
    generalize n3 / 128 = n4 at *
    simp only
    rw [xX (16384) k3 (by omega), ab, ab, decide_eq_false (by omega), aj]
    by_cases h4 : n4 < 128
    ·rw [ik h4, List.singleton_append, nv, ab]
     simp only
     rw [w7 (2097152) h4 (by omega), ab, decide_eq_true (by omega), aE, aj]
     unfold gA
     simp (disch := omega) only [hJ]
     rw [show (((n4 : Nat) : Int) == 0) = false by rw [beq_eq_false_iff_ne]; omega]
     congr 2
     omega
    ·rw [nT h4, List.cons_append, nv, ab]
     have g4 := Nat.div_add_mod n4 128
     have k4 : n4 % 128 < 128 := Nat.mod_lt _ (by decide)
     generalize n4 % 128 = d4 at *
     generalize n4 / 128 = n5 at *
     simp only
     rw [xX (2097152) k4 (by omega), ab, decide_eq_false (by omega), aj]
     by_cases h5 : n5 < 128
     ·rw [ik h5, List.singleton_append, nv, ab]
      simp only
      rw [w7 (268435456) h5 (by omega), ab, decide_eq_true (by omega), aE, aj]
      unfold gx
      simp (disch := omega) only [hJ]
      rw [show (((n5 : Nat) : Int) == 0) = false by rw [beq_eq_false_iff_ne]; omega]
      congr 2
      omega
     ·rw [nT h5, List.cons_append, nv, ab]
      have g5 := Nat.div_add_mod n5 128
      have k5 : n5 % 128 < 128 := Nat.mod_lt _ (by decide)
      generalize n5 % 128 = d5 at *
      generalize n5 / 128 = n6 at *
      simp only
      rw [xX (268435456) k5 (by omega), ab, decide_eq_false (by omega), aj]
      by_cases h6 : n6 < 128
      ·rw [ik h6, List.singleton_append, nv, ab]
       simp only
       rw [w7 (34359738368) h6 (by omega), ab, ab, decide_eq_true (by omega), aE, aj]
       unfold gv
       simp (disch := omega) only [hJ]
       rw [show (((n6 : Nat) : Int) == 0) = false by rw [beq_eq_false_iff_ne]; omega]
       congr 2
       omega
      ·rw [nT h6, List.cons_append, nv, ab]
       have g6 := Nat.div_add_mod n6 128
       have k6 : n6 % 128 < 128 := Nat.mod_lt _ (by decide)
       generalize n6 % 128 = d6 at *
       generalize n6 / 128 = n7 at *
       simp only
       rw [xX (34359738368) k6 (by omega), ab, ab, decide_eq_false (by omega), aj]
       by_cases h7 : n7 < 128
       ·rw [ik h7, List.singleton_append, nv, ab]
        simp only
        rw [w7 (4398046511104) h7 (by omega), ab, decide_eq_true (by omega), aE, aj]
        unfold gw
        simp (disch := omega) only [hJ]
        rw [show (((n7 : Nat) : Int) == 0) = false by rw [beq_eq_false_iff_ne]; omega]
        congr 2
        omega
       ·rw [nT h7, List.cons_append, nv, ab]
        have g7 := Nat.div_add_mod n7 128
        have k7 : n7 % 128 < 128 := Nat.mod_lt _ (by decide)
        generalize n7 % 128 = d7 at *
        generalize n7 / 128 = n8 at *
        simp only
        rw [xX (4398046511104) k7 (by omega), ab, decide_eq_false (by omega), aj]
        by_cases h8 : n8 < 128
        ·rw [ik h8, List.singleton_append, nv, ab]
         simp only
         rw [w7 (562949953421312) h8 (by omega), ab, decide_eq_true (by omega), aE, aj]
         unfold gu
         simp (disch := omega) only [hJ]
         rw [show (((n8 : Nat) : Int) == 0) = false by rw [beq_eq_false_iff_ne]; omega]
         congr 2
         omega
        ·rw [nT h8, List.cons_append, nv, ab]
         have g8 := Nat.div_add_mod n8 128
         have k8 : n8 % 128 < 128 := Nat.mod_lt _ (by decide)
         generalize n8 % 128 = d8 at *
         generalize n8 / 128 = n9 at *
         simp only
         rw [xX (562949953421312) k8 (by omega), ab, decide_eq_false (by omega), aj]
         have h9 : n9 < 128 := by omega
         rw [ik h9, List.singleton_append, nv, ab]
         simp only
         rw [w7 (72057594037927936) h9 (by omega), ab, ab, decide_eq_true (by omega), aE, aj]
         unfold gy
         simp (disch := omega) only [hJ]
         rw [show (((n9 : Nat) : Int) == 0) = false by rw [beq_eq_false_iff_ne]; omega]
         congr 2
         omega
theorem zn {N : Nat} {c : ar} (hc : SB N c) : nk (bT c) fun r => SB N r.2 := by
 unfold bT gB gr gC gA gx gv gw gu gy
 refine fc (ki hc) fun r1 h1 => p5 (bz (fun _ => bz (fun _ => tS h1.2) fun _ => tS h1.2) fun _ => ?_)
 refine fc (ki h1.2) fun r2 h2 => p5 (bz (fun _ => bz (fun _ => tS h2.2) fun _ => tS h2.2) fun _ => ?_)
 refine fc (ki h2.2) fun r3 h3 => p5 (p5 (bz (fun _ => bz (fun _ => tS h3.2) fun _ => tS h3.2) fun _ => ?_))
 refine fc (ki h3.2) fun r4 h4 => p5 (bz (fun _ => bz (fun _ => tS h4.2) fun _ => tS h4.2) fun _ => ?_)
 refine fc (ki h4.2) fun r5 h5 => p5 (bz (fun _ => bz (fun _ => tS h5.2) fun _ => tS h5.2) fun _ => ?_)
 refine fc (ki h5.2) fun r6 h6 => p5 (p5 (bz (fun _ => bz (fun _ => tS h6.2) fun _ => tS h6.2) fun _ => ?_))
 refine fc (ki h6.2) fun r7 h7 => p5 (bz (fun _ => bz (fun _ => tS h7.2) fun _ => tS h7.2) fun _ => ?_)
 refine fc (ki h7.2) fun r8 h8 => p5 (bz (fun _ => bz (fun _ => tS h8.2) fun _ => tS h8.2) fun _ => ?_)
 refine fc (ki h8.2) fun r9 h9 => p5 (p5 (bz (fun _ => bz (fun _ => tS h9.2) fun _ => tS h9.2) fun _ => ?_))
 exact tS h9.2
end Go.Proofs.YtnecojeemmnnaaaGreatDoor
namespace Go.Proofs.YtnecojeemmnnaaaGreatDoor
open Go Go.SX Go.SX.Cal
theorem yO {n : Int} {t : List Int} (h : -4000000000000000000 ≤ n ∧ n ≤ 4000000000000000000) : eA ⟨sg n ++ t, false⟩ = some (n, ⟨t, false⟩) := by
 unfold eA sg
 have hz : zz n < 9223372036854775808 := by unfold zz; split <;> omega
 rw [sU hz, ab]
 simp only
 rw [Int.tmod_eq_emod_of_nonneg (by omega), Int.tdiv_eq_ediv_of_nonneg (by omega)]
 by_cases hn : n < 0
 ·have e : zz n = (-2 * n - 1).toNat := by unfold zz; rw [if_pos hn]
  rw [e, show ((((-2 * n - 1).toNat : Nat) : Int) % 2 == 1) = true by rw [beq_iff_eq]; omega, aE]
  simp (disch := omega) only [hJ]
  rw [ab]
  congr 2; omega
 ·have e : zz n = (2 * n).toNat := by unfold zz; rw [if_neg hn]
  rw [e, show ((((2 * n).toNat : Nat) : Int) % 2 == 1) = false by rw [beq_eq_false_iff_ne]; omega, aj]
  simp (disch := omega) only [hJ]
  congr 2; omega
theorem wS {N : Nat} {c : ar} (hc : SB N c) : nk (eA c) fun r => SB N r.2 := by
 unfold eA
 exact fc (zn hc) fun r hr => bz (fun _ => p5 (tS hr)) fun _ => tS hr
theorem zq {n : Nat} {b : List Int} (h : n ≤ b.length) : fg (n : Int) ⟨b, false⟩ = some (b.take n, ⟨b.drop n, false⟩) := by
 unfold fg gk
 simp only
 rw [aj, decide_eq_false (by omega), aj, decide_eq_false (by omega), aj, aJ (by omega), aJ (by omega)]
 simp
theorem GA {N : Nat} {n : Int} {c : ar} (hc : SB N c) : nk (fg n c) fun r => gU r.1 ∧ SB N r.2 ∧ (r.2.bad = false → (r.1.length : Int) = n) := by
 unfold fg gk
 refine bz (fun h => ?_) fun h0 => ?_
 ·exact tS ⟨(fun e he => by cases he), hc, (fun h => by cases h)⟩
 refine bz (fun h => ?_) fun h1 => ?_
 ·exact tS ⟨(fun e he => by cases he), hc, (fun h => by cases h)⟩
 refine bz (fun h => ?_) fun h2 => ?_
 ·exact tS ⟨(fun e he => by cases he), hc, (fun h => by cases h)⟩
 have h1' := of_decide_eq_false h1
 have h2' := of_decide_eq_false h2
 refine pp (by omega) (pp (by omega) (tS ⟨?_, ⟨l0 hc.1 _, ?_⟩, fun _ => ?_⟩))
 ·exact u7 (l0 hc.1 _) _
 ·have := hc.2; simp only [List.length_drop]; omega
 ·simp; omega
abbrev RB (N : Nat) (r : List Int × ar) : Prop := SB N r.2 ∧ r.1.length ≤ 1048576
theorem FO (r1 : Int × ar) (r3 : List Int × ar) (r4 : List Int) (h4 : r4.length ≤ 10000000) (hr1 : -2000000000000000000 ≤ r1.1 ∧ r1.1 ≤ 2000000000000000000) : ∀ (b a : List Int) (f : Nat), a.length + b.length = r4.length → b.length < f →
  (∀ e ∈ b, -2000000000000000000 ≤ e + r1.1 ∧ e + r1.1 ≤ 2000000000000000000) →
  bZ r1 r3 r4 f (a ++ b) (a.length : Int) = some (a ++ b.map (fun e => e + r1.1), r3.2)
 | [], a, f, hl, hf, hb => by
  obtain ⟨f, rfl⟩ := aL hf
  have hl' : a.length = r4.length := hl
  rw [bZ, decide_eq_false (by omega), aj]
  unfold mM
  simp
 | e :: b, a, f, hl, hf, hb => by
  obtain ⟨f, rfl⟩ := aL hf
  have hl' : a.length + (b.length + 1) = r4.length := hl
  have hi : a.length < (a ++ e :: b).length := by simp
  have he : (a ++ e :: b)[a.length] = e := by simp
  have hE := hb e (List.mem_cons_self ..)
  rw [bZ, decide_eq_true (by omega), aE, decide_eq_false (by omega), aj, aH hi, ab, he, hJ (x := 2000000000000000000 - r1.1) (by omega) (by omega), ab, decide_eq_false (by omega), aj]
  unfold iT
  rw [aj, aH hi, ab, he, Int.toNat_natCast, yA, al (n := r4.length) (by omega) (by omega), hJ (x := e + r1.1) (by omega) (by omega)]
  have := FO r1 r3 r4 h4 hr1 b (a ++ [e + r1.1]) f (by simp; omega) (by simp only [List.length_cons] at hf; omega) (fun y hy => hb y (List.mem_cons_of_mem _ hy))
  rw [List.length_append, List.length_singleton, List.append_assoc, List.singleton_append] at this
  rw [this]
  simp
theorem Eb {l : List Int} (hl : l.length ≤ 1048576) (hr : np l) : jH (l.length : Int) ⟨eF l, false⟩ = some (l, ⟨[], false⟩) := by
 cases l with
 | nil => rfl
 | cons x t =>
  have hF := GW (x := x) (t := t) (by omega) hr
  have hm := hF.mr
  have hw := hF.fit.w62
  have hub := H5 hF.fit
  have hnp := F5 hF.fit hF.lt
  have hlo := hF.lo
  unfold jH
  simp only [eF]
  generalize vm x t = m at *
  generalize bl (xe x t - m).toNat = w at *
  rw [List.length_map] at hub hnp
  have hbl := hub.bl
  rw [show ((((x :: t).length : Nat) : Int) == 0) = false by rw [beq_eq_false_iff_ne]; simp; omega, aj, List.append_assoc, yO (by omega), ab, List.singleton_append, nv, ab]
  simp only
  rw [hJ (x := (w : Int)) (by omega) (by omega), decide_eq_false (by omega), aj, ab, ul hw (by omega), ← hbl, zq (Nat.le_refl _), ab]
  simp only
  rw [aj, List.take_length, List.drop_length, Dl hub, ab, hnp]
  have := FO (m, ⟨(w : Int) :: pk w ((x :: t).map (· - m)), false⟩) (pk w ((x :: t).map (· - m)), ⟨[], false⟩) ((x :: t).map (· - m)) (by rw [List.length_map]; omega) hm ((x :: t).map (· - m)) [] aK (by simp) (by rw [List.length_map, cI]; omega)
   (fun e he => by
    obtain ⟨y, hy, rfl⟩ := List.mem_map.1 he
    have := hr y hy
    simp only; omega)
  rw [List.nil_append, List.nil_append, List.length_nil] at this
  rw [show ((0 : Nat) : Int) = 0 from rfl] at this
  rw [this]
  congr 2
  rw [List.map_map]
  conv => rhs; rw [← List.map_id (x :: t)]
  refine List.map_congr_left fun y hy => ?_
  show y - m + m = y
  omega
theorem LZ {N : Nat} {r1 : Int × ar} {r3 : List Int × ar} {r4 : List Int} (h3 : SB N r3.2) (h4 : r4.length ≤ 1048576) : ∀ (m f i : Nat) (l : List Int), l.length = r4.length → i + m = r4.length → m < f → nk (bZ r1 r3 r4 f l (i : Int)) (RB N) := by
 intro m
 induction m with
 | zero =>
  intro f i l hl hi hf
  obtain ⟨f, rfl⟩ := aL hf
  rw [bZ, bL (by omega), aj]
  unfold mM
  exact tS ⟨h3, by simp only; omega⟩
 | succ m ih =>
  intro f i l hl hi hf
  obtain ⟨f, rfl⟩ := aL hf
  have hil : i < l.length := by omega
  rw [bZ, aU (by omega), aE]
  have key : ∀ x, nk (iT (bZ r1 r3 r4 f) r1 r3 l (i : Int) x) (RB N) := by
   intro x
   unfold iT
   refine bz (fun _ => tS ⟨h3, by simp⟩) fun _ => ?_
   rw [aH hil, al (n := r4.length) (by omega) (by omega)]
   exact p5 (ih f (i + 1) _ (by simpa using hl) (by omega) (by omega))
  refine bz (fun _ => key _) fun _ => ?_
  rw [aH hil]
  exact p5 (p5 (bz (fun _ => key _) fun _ => key _))
theorem BK {N : Nat} {n : Int} {c : ar} (hn : 0 ≤ n ∧ n ≤ 1048576) (hc : SB N c) : nk (jH n c) (RB N) := by
 unfold jH
 refine bz (fun _ => tS ⟨hc, by simp⟩) fun h0 => fc (wS hc) fun r1 h1 => fc (ki h1) fun r2 h2 => ?_
 obtain ⟨w, hwe⟩ : ∃ w : Nat, r2.1 = (w : Int) := ⟨r2.1.toNat, by omega⟩
 obtain ⟨k, hke⟩ : ∃ k : Nat, n = (k : Int) := ⟨n.toNat, by omega⟩
 rw [hwe, hJ (x := (w : Int)) (by omega) (by omega)]
 refine bz (fun _ => tS ⟨h2.2, by simp⟩) fun hw => ?_
 have hw' := of_decide_eq_false hw
 rw [hke, ab, ul (by omega) (by omega)]
 refine fc (GA h2.2) fun r3 h3 => bz (fun _ => tS ⟨h3.2.1, by simp⟩) fun hb => ?_
 have hlen := h3.2.2 hb
 rw [Dl ⟨by omega, by omega, h3.1, by omega⟩, ab]
 have hnl : (nD w k r3.1).length = k := by simp [nD]
 exact LZ h3.2.1 (by omega) _ aK 0 _ rfl (Nat.zero_add _) (by rw [cI]; omega)
theorem JH {n : Nat} (hn : n ≤ 1048576) : ∀ (w l t : List Int) (f : Nat), np w → l.length + w.length = n → w.length < f →
  bW (n : Int) f l (eP w ++ t) false ((l.length : Nat) : Int) = some (l ++ w, ⟨t, false⟩)
 | [], l, t, f, hr, hl, hf => by
  obtain ⟨f, rfl⟩ := aL hf
  have hl' : l.length = n := hl
  rw [bW, uv (by omega), aj]
  unfold gn bj
  rw [aj, List.append_nil]; rfl
 | x :: w, l, t, f, hr, hl, hf => by
  obtain ⟨f, rfl⟩ := aL hf
  have hl' : l.length + (w.length + 1) = n := hl
  have hx := hr x (List.mem_cons_self ..)
  rw [bW, uq (by omega), aE]
  unfold gn
  rw [Bool.not_false, aE, ui, List.append_assoc, yO (by omega), ab, aJ (by omega), al (n := n) (by omega) (by omega)]
  simp only
  have := JH hn w (l ++ [x]) t f (fun y hy => hr y (List.mem_cons_of_mem _ hy)) (by simp; omega) (by simp only [List.length_cons] at hf; omega)
  rw [List.length_append, List.length_singleton, List.append_assoc] at this
  exact this
theorem JW {N : Nat} {n : Int} (hn : n ≤ 1048576) : ∀ (m f : Nat) (l b : List Int) (bad : Bool), SB N ⟨b, bad⟩ → l.length ≤ 1048576 → n ≤ l.length + m → m < f → nk (bW n f l b bad ((l.length : Nat) : Int)) (RB N) := by
 intro m
 induction m with
 | zero =>
  intro f l b bad hc hl hm hf
  obtain ⟨f, rfl⟩ := aL hf
  rw [bW, decide_eq_false (by omega), aj]
  unfold gn bj
  exact tS ⟨hc, hl⟩
 | succ m ih =>
  intro f l b bad hc hl hm hf
  obtain ⟨f, rfl⟩ := aL hf
  rw [bW]
  unfold gn bj
  refine bz (fun h => bz (fun _ => ?_) fun _ => tS ⟨hc, hl⟩) fun _ => tS ⟨hc, hl⟩
  have h' := of_decide_eq_true h
  refine fc (wS hc) fun r hr => pp (by omega) ?_
  have := ih f (l ++ [r.1]) _ _ hr (by simp; omega) (by simp; omega) (by omega)
  rw [List.length_append, List.length_singleton] at this
  rw [al (n := 1048576) (by omega) (by omega)]
  exact this
theorem CA (rec1 : List Int → List Int → Bool → Option ((List Int) × ar)) (r1 r2 : Int × ar) {c : Nat} (h1 : r1.1 = (c : Int)) (hc : c ≤ 1048576) : ∀ (m f i : Nat) (l : List Int), i + m = c → m < f → l.length + m ≤ 10000000 →
  bS rec1 r1 r2 false f l (i : Int) = rec1 (l ++ List.replicate m r2.1) r2.2.b false := by
 intro m
 induction m with
 | zero =>
  intro f i l hi hf hl
  obtain ⟨f, rfl⟩ := aL hf
  rw [bS, h1, bL (by omega), aj]
  unfold iI
  rw [aj]; simp
 | succ m ih =>
  intro f i l hi hf hl
  obtain ⟨f, rfl⟩ := aL hf
  rw [bS, h1, aU (by omega), aE]
  unfold iI
  rw [Bool.not_false, aE, aJ (by omega), al (n := c) (by omega) (by omega), ih f (i + 1) _ (by omega) (by omega) (by simp; omega), List.append_assoc, List.replicate_succ]; rfl
theorem Di (rec1 : List Int → List Int → Bool → Option ((List Int) × ar)) (r1 r2 : Int × ar) (l : List Int) : bS rec1 r1 r2 true aK l 0 = rec1 l r2.2.b true := by
 rw [show aK = 1152921504606846975 + 1 from rfl, bS]
 unfold iI
 rw [Bool.not_true, aj]
 cases decide ((0 : Int) < r1.1) <;> rfl
theorem J7 {n : Nat} (hn : n ≤ 1048576) : ∀ (m : Nat) (w : List Int), w.length = m → ∀ (l t : List Int) (f : Nat), np w → l.length + m = n → m < f →
  aP (n : Int) f l (eR w ++ t) false = some (l ++ w, ⟨t, false⟩) := by
 intro m
 induction m using Nat.strongRecOn with
 | ind m ih =>
  intro w hw l t f hr hl hf
  obtain ⟨f, rfl⟩ := aL hf
  cases w with
  | nil =>
   have : m = 0 := by simpa using hw.symm
   rw [aP, uv (by omega), aj]
   unfold fa bj
   rw [aj, List.append_nil, eR]; rfl
  | cons x w =>
   have hx := hr x (List.mem_cons_self ..)
   have hsp : w.takeWhile (· == x) ++ w.dropWhile (· == x) = w := List.takeWhile_append_dropWhile
   have htr := EO x w
   have hlw : (w.takeWhile (· == x)).length + (w.dropWhile (· == x)).length = w.length := by rw [← List.length_append, hsp]
   simp only [List.length_cons] at hw
   rw [aP, uq (by omega), aE]
   unfold fa
   rw [Bool.not_false, aE, u5, List.append_assoc, List.append_assoc, sU (by omega), ab]
   simp only
   rw [yO (by omega), ab, decide_eq_false (by omega), aj]
   unfold jS jJ
   rw [hJ (by omega) (by omega), decide_eq_false (by omega), aj]
   simp only
   have ha := CA (aP (n : Int) f) (((1 + (w.takeWhile (· == x)).length : Nat) : Int), ⟨sg x ++ (eR (w.dropWhile (· == x)) ++ t), false⟩) (x, ⟨eR (w.dropWhile (· == x)) ++ t, false⟩) (c := 1 + (w.takeWhile (· == x)).length) rfl (by omega) (1 + (w.takeWhile (· == x)).length) aK 0 l (by omega) (by rw [cI]; omega) (by omega)
   rw [show ((0 : Nat) : Int) = 0 from rfl] at ha
   rw [ha]
   simp only
   have hi := ih (w.dropWhile (· == x)).length (by omega) (w.dropWhile (· == x)) rfl (l ++ List.replicate (1 + (w.takeWhile (· == x)).length) x) t f (fun y hy => hr y (List.mem_cons_of_mem _ (by rw [← hsp]; exact List.mem_append_right _ hy))) (by simp; omega) (by omega)
   rw [hi, List.append_assoc, Nat.add_comm 1, List.replicate_succ, List.cons_append, ← htr, hsp]
theorem Ie {N : Nat} {n : Int} (hn : n ≤ 1048576) : ∀ (m f : Nat) (l b : List Int) (bad : Bool), SB N ⟨b, bad⟩ → l.length ≤ 1048576 → n ≤ l.length + m → m + 1 < f → nk (aP n f l b bad) (RB N) := by
 have hbadE : ∀ (f : Nat) (l b : List Int), SB N ⟨b, true⟩ → l.length ≤ 1048576 → nk (aP n (f + 1) l b true) (RB N) := by
  intro f l b hc hl
  rw [aP]
  unfold fa bj
  rw [Bool.not_true, aj]
  exact bz (fun _ => tS ⟨hc, hl⟩) fun _ => tS ⟨hc, hl⟩
 intro m
 induction m with
 | zero =>
  intro f l b bad hc hl hm hf
  obtain ⟨f, rfl⟩ := aL hf
  rw [aP, decide_eq_false (by omega), aj]
  unfold fa bj
  exact tS ⟨hc, hl⟩
 | succ m ih =>
  intro f l b bad hc hl hm hf
  obtain ⟨f, rfl⟩ := aL hf
  rw [aP]
  unfold fa bj
  refine bz (fun h => bz (fun _ => ?_) fun _ => tS ⟨hc, hl⟩) fun _ => tS ⟨hc, hl⟩
  have h' := of_decide_eq_true h
  refine fc (zn hc) fun r1 h1 => fc (wS h1) fun r2 h2 => ?_
  obtain ⟨f, rfl⟩ := aL (m := m) (f := f) (by omega)
  unfold jS jJ
  have hbd : nk (bS (aP n (f + 1)) r1 r2 true aK l 0) (RB N) := by
   rw [Di]; exact hbadE f l _ h2 hl
  refine bz (fun _ => bz (fun _ => hbd) (fun h => by cases h)) fun h1' => bz (fun _ => hbd) fun h2' => ?_
  have g1 := of_decide_eq_false h1'
  have g2 := of_decide_eq_false h2'
  rw [hJ (by omega) (by omega)] at g2
  obtain ⟨c, hce⟩ : ∃ c : Nat, r1.1 = (c : Int) := ⟨r1.1.toNat, by omega⟩
  cases hz : r2.2.bad with
  | true => rw [Di]; exact hbadE f l _ h2 hl
  | false =>
   have ha := CA (aP n (f + 1)) r1 r2 hce (by omega) c aK 0 l (by omega) (by rw [cI]; omega) (by omega)
   rw [show ((0 : Nat) : Int) = 0 from rfl] at ha
   rw [ha]
   exact ih (f + 1) _ _ _ h2 (by simp; omega) (by simp; omega) (by omega)
theorem BM {n : Nat} (hn : n ≤ 1048576) : ∀ (w : List Int) (p : Int) (l t : List Int) (f : Nat), np w → -2000000000000000000 ≤ p ∧ p ≤ 2000000000000000000 → l.length + w.length = n → w.length < f →
  bv (n : Int) f l (eD p w ++ t) false p ((l.length : Nat) : Int) = some (l ++ w, ⟨t, false⟩)
 | [], p, l, t, f, hr, hp, hl, hf => by
  obtain ⟨f, rfl⟩ := aL hf
  have hl' : l.length = n := hl
  rw [bv, uv (by omega), aj]
  unfold gh bj
  rw [aj, List.append_nil]; rfl
 | x :: w, p, l, t, f, hr, hp, hl, hf => by
  obtain ⟨f, rfl⟩ := aL hf
  have hl' : l.length + (w.length + 1) = n := hl
  have hx := hr x (List.mem_cons_self ..)
  rw [bv, uq (by omega), aE]
  unfold gh
  rw [Bool.not_false, aE, eD, List.append_assoc, yO (by omega), ab]
  simp only
  rw [decide_eq_false (by omega), aj, decide_eq_false (by omega)]
  unfold iK iH
  rw [aj]
  simp only
  rw [show p + (x - p) = x by omega, hJ (x := x) (by omega) (by omega), decide_eq_false (by omega), ab, aj, decide_eq_false (by omega), ab, aj, aJ (by omega), al (n := n) (by omega) (by omega)]
  have := BM hn w x (l ++ [x]) t f (fun y hy => hr y (List.mem_cons_of_mem _ hy)) hx (by simp; omega) (by simp only [List.length_cons] at hf; omega)
  rw [List.length_append, List.length_singleton, List.append_assoc] at this
  exact this
theorem Dw {N : Nat} {n : Int} (hn : n ≤ 1048576) : ∀ (m f : Nat) (l b : List Int) (bad : Bool) (x : Int), SB N ⟨b, bad⟩ → l.length ≤ 1048576 → n ≤ l.length + m → m < f → nk (bv n f l b bad x ((l.length : Nat) : Int)) (RB N) := by
 intro m
 induction m with
 | zero =>
  intro f l b bad x hc hl hm hf
  obtain ⟨f, rfl⟩ := aL hf
  rw [bv, decide_eq_false (by omega), aj]
  unfold gh bj
  exact tS ⟨hc, hl⟩
 | succ m ih =>
  intro f l b bad x hc hl hm hf
  obtain ⟨f, rfl⟩ := aL hf
  rw [bv]
  unfold gh bj
  refine bz (fun h => bz (fun _ => ?_) fun _ => tS ⟨hc, hl⟩) fun _ => tS ⟨hc, hl⟩
  have h' := of_decide_eq_true h
  refine fc (wS hc) fun r hr => ?_
  have k8 : ∀ y, nk (iH (bv n f) l x ((l.length : Nat) : Int) r y) (RB N) := by
   intro y
   unfold iH
   refine bz (fun _ => tS ⟨hr, by simp⟩) fun _ => pp (by omega) ?_
   have := ih f (l ++ [IntKind.i64.wrap (x + r.1)]) r.2.b r.2.bad (IntKind.i64.wrap (x + r.1)) hr (by simp; omega) (by simp; omega) (by omega)
   rw [List.length_append, List.length_singleton] at this
   rw [al (n := 1048576) (by omega) (by omega)]
   exact this
  have k7 : ∀ y, nk (iK (bv n f) l x ((l.length : Nat) : Int) r y) (RB N) := by
   intro y
   unfold iK
   exact bz (fun _ => tS ⟨hr, by simp⟩) fun _ => p5 (bz (fun _ => k8 _) fun _ => p5 (k8 _))
  exact bz (fun _ => k7 _) fun _ => k7 _
theorem HI {N : Nat} {n : Int} {c : ar} (hn : n ≤ 1048576) (hc : SB N c) (k : Nat) : nk (dr (k + 1) 2 n c) (RB N) := by
 rw [dr]
 rw [show ((2 : Int) == 0) = false from rfl, aj, show ((2 : Int) == 1) = false from rfl, aj, show ((2 : Int) == 2) = true from rfl, aE]
 exact Dw hn 1048576 aK [] c.b c.bad 0 hc (by simp) (by simp; omega) (by rw [cI]; omega)
theorem KD {w t : List Int} (hw : w.length ≤ 1048576) (hr : np w) (k : Nat) : dr (k + 1) 2 (w.length : Int) ⟨eD 0 w ++ t, false⟩ = some (w, ⟨t, false⟩) := by
 have := BM hw w 0 [] t aK hr (by omega) (by simp) (by rw [cI]; omega)
 rw [List.nil_append] at this
 rw [dr]
 rw [show ((2 : Int) == 0) = false from rfl, aj, show ((2 : Int) == 1) = false from rfl, aj, show ((2 : Int) == 2) = true from rfl, aE]
 exact this
theorem LV {w l : List Int} (r7 r8 : List Int × ar) (h7 : r7.1 = w) (h8 : r8.1 = ra w l) (hs : SS w) (hw : w.length ≤ 1048576) (hl : l.length ≤ 1048576) (hm : ∀ x ∈ l, x ∈ w) : ∀ (m f i : Nat) (b : List Int), i + m = l.length → m < f → b.length ≤ i →
  bV r7 r8 f b (i : Int) = some (b ++ l.drop i, r8.2) := by
 have hpl : (ra w l).length = l.length := by simp [ra]
 intro m
 induction m with
 | zero =>
  intro f i b hi hf hb
  obtain ⟨f, rfl⟩ := aL hf
  rw [bV, h8, hpl, bL (by omega), aj, List.drop_of_length_le (by omega)]
  unfold bj
  simp
 | succ m ih =>
  intro f i b hi hf hb
  obtain ⟨f, rfl⟩ := aL hf
  have hil : i < l.length := by omega
  have hil' : i < (ra w l).length := by omega
  obtain ⟨hp, he⟩ := Jx hs (hm _ (List.getElem_mem hil))
  have hg : (ra w l)[i] = ((ps w l[i] : Nat) : Int) := by simp [ra]
  rw [bV, h8, hpl, aU hil, aE, aH hil', ab, hg, h7, decide_eq_false (by omega), aj, decide_eq_false (by omega)]
  unfold jR
  rw [aj, h7, aH hp, ab, he, aJ (by omega), al hil (by omega), ih f (i + 1) _ (by omega) (by omega) (by simp; omega), jA hil, List.append_assoc]; rfl
theorem Kb {N : Nat} (r7 r8 : List Int × ar) (h8 : RB N r8) : ∀ (m f i : Nat) (b : List Int), i + m = r8.1.length → m < f → b.length ≤ i → nk (bV r7 r8 f b (i : Int)) (RB N) := by
 have hl8 := h8.2
 intro m
 induction m with
 | zero =>
  intro f i b hi hf hb
  obtain ⟨f, rfl⟩ := aL hf
  rw [bV, bL (by omega), aj]
  unfold bj
  exact tS ⟨h8.1, by simp only; omega⟩
 | succ m ih =>
  intro f i b hi hf hb
  obtain ⟨f, rfl⟩ := aL hf
  have hil : i < r8.1.length := by omega
  rw [bV, aU hil, aE, aH hil, ab]
  unfold jR
  refine bz (fun _ => bz (fun _ => tS ⟨h8.1, by simp⟩) fun h => by cases h) fun h1 => bz (fun _ => tS ⟨h8.1, by simp⟩) fun h2 => ?_
  have g1 := of_decide_eq_false h1
  have g2 := of_decide_eq_false h2
  obtain ⟨e, he⟩ : ∃ e : Nat, r8.1[i] = (e : Int) := ⟨r8.1[i].toNat, by omega⟩
  rw [he, aH (show e < r7.1.length by omega), al hil (by omega)]
  exact p5 (pp (by omega) (ih f (i + 1) _ (by omega) (by omega) (by simp; omega)))
theorem MZ {l : List Int} (hl : l.length ≤ 1048576) (hr : np l) {kind : Int} (hk : 0 ≤ kind ∧ kind ≤ 4) (k : Nat) : dr (k + 2) kind (l.length : Int) ⟨enc kind l, false⟩ = some (l, ⟨[], false⟩) := by
 rw [dr]
 unfold enc
 by_cases h0 : kind = 0
 ·have := JH hl l [] [] aK hr (by simp) (by rw [cI]; omega)
  rw [List.append_nil, List.nil_append] at this
  subst h0
  rw [show ((0 : Int) == 0) = true from rfl, aE]
  exact this
 rw [show (kind == 0) = false by simp [h0], aj]
 by_cases h1 : kind = 1
 ·have := J7 hl l.length l rfl [] [] aK hr (by simp) (by rw [cI]; omega)
  rw [List.append_nil, List.nil_append] at this
  rw [h1, show ((1 : Int) == 1) = true from rfl, aE, if_pos rfl]
  exact this
 rw [show (kind == 1) = false by simp [h1], aj, if_neg h1]
 by_cases h2 : kind = 2
 ·have := BM hl l 0 [] [] aK hr (by omega) (by simp) (by rw [cI]; omega)
  rw [List.append_nil, List.nil_append] at this
  rw [h2, show ((2 : Int) == 2) = true from rfl, aE, if_pos rfl]
  exact this
 rw [show (kind == 2) = false by simp [h2], aj, if_neg h2]
 by_cases h3 : kind = 3
 ·rw [h3, show ((3 : Int) == 3) = true from rfl, aE, if_pos rfl, Eb hl hr]; rfl
 rw [show (kind == 3) = false by simp [h3], aj, if_neg h3]
 have h4 : kind = 4 := by omega
 obtain ⟨w1, w2, w3⟩ := yn l
 have hw : np (ws l) := fun x hx => hr x ((w2 x).1 hx)
 have hpl : (ra (ws l) l).length = l.length := by simp [ra]
 have hpi : np (ra (ws l) l) := uH (by omega)
 have hfr := Eb (l := ra (ws l) l) (by omega) hpi
 rw [hpl] at hfr
 rw [if_pos h4]
 unfold eW
 rw [List.append_assoc, sU (by omega), ab]
 simp only
 rw [decide_eq_false (by omega), aj, KD (by omega) hw, ab]
 simp only
 rw [hfr, ab]
 have := LV (w := ws l) (l := l) (ws l, ⟨eF (ra (ws l) l), false⟩) (ra (ws l) l, ⟨[], false⟩) rfl rfl w1 (by omega) hl (fun x hx => (w2 x).2 hx) l.length aK 0 [] (by omega) (by rw [cI]; omega) (by simp)
 rw [List.drop_zero, List.nil_append, show ((0 : Nat) : Int) = 0 from rfl] at this
 exact this
theorem Mp {N : Nat} {c : ar} (hc : SB N c) {n : Int} (hn : 0 ≤ n ∧ n ≤ 1048576) (kind : Int) (k : Nat) : nk (dr (k + 2) kind n c) (RB N) := by
 rw [dr]
 refine bz (fun _ => JW hn.2 1048576 aK [] c.b c.bad hc (by simp) (by simp; omega) (by rw [cI]; omega)) fun _ => bz (fun _ => Ie hn.2 1048576 aK [] c.b c.bad hc (by simp) (by simp; omega) (by rw [cI]; omega)) fun _ =>
  bz (fun _ => Dw hn.2 1048576 aK [] c.b c.bad 0 hc (by simp) (by simp; omega) (by rw [cI]; omega)) fun _ => bz (fun _ => fc (BK hn hc) fun r hr => tS hr) fun _ => ?_
 refine fc (zn hc) fun r6 h6 => bz (fun _ => tS ⟨h6, by simp⟩) fun h => ?_
 have g := of_decide_eq_false h
 refine fc (HI (by omega) h6 k) fun r7 h7 => fc (BK hn h7.1) fun r8 h8 => ?_
 exact Kb r7 r8 h8 r8.1.length aK 0 [] (by omega) (by rw [cI]; have := h8.2; omega) (by simp)
end Go.Proofs.YtnecojeemmnnaaaGreatDoor
namespace Go.Proofs.YtnecojeemmnnaaaGreatDoor
open Go Go.SX Go.SX.Cal
def Rd (kind n : Int) (b : List Int) (r : List Int × Int) : Prop :=
 (¬ (0 ≤ kind ∧ kind ≤ 4 ∧ 0 ≤ n ∧ n ≤ 1048576) ∧ r = ([], 3)) ∨
 ((0 ≤ kind ∧ kind ≤ 4 ∧ 0 ≤ n ∧ n ≤ 1048576) ∧ ((∃ l, np l ∧ (l.length : Int) = n ∧ enc kind l = b ∧ r = (l, 0)) ∨ ((∀ l, np l → (l.length : Int) = n → enc kind l ≠ b) ∧ r = ([], 1))))
theorem Ld {kind : Int} (hk : 0 ≤ kind ∧ kind ≤ 4) {l m : List Int} (hl : l.length ≤ 1048576) (hr : np l) (hm : np m) (h : m.length = l.length) (e : enc kind m = enc kind l) : m = l := by
 have h1 := Ew hl hr hk
 have h2 := Ew (l := m) (by omega) hm hk
 rw [e, h, h1] at h2
 exact (congrArg (fun o => o.1) (Option.some.inj h2)).symm
theorem Rd.uniq {kind n : Int} {b : List Int} {r s : List Int × Int} (h : Rd kind n b r) (k : Rd kind n b s) : r = s := by
 rcases h with ⟨h0, rfl⟩ | ⟨h0, h⟩
 ·rcases k with ⟨_, rfl⟩ | ⟨k0, _⟩
  ·rfl
  ·exact absurd k0 h0
 ·rcases k with ⟨k0, _⟩ | ⟨_, k⟩
  ·exact absurd h0 k0
  ·rcases h with ⟨l, h1, h2, h3, rfl⟩ | ⟨h1, rfl⟩ <;> rcases k with ⟨m, k1, k2, k3, rfl⟩ | ⟨k1, rfl⟩
   ·rw [Ld (kind := kind) (by omega) (by omega) h1 k1 (by omega) (k3.trans h3.symm)]
   ·exact absurd h3 (k1 l h1 h2)
   ·exact absurd k3 (h1 m k1 k2)
   ·rfl
theorem AP {a : List Int} (h : gU a) : (strOfNums a).data.toList.map (fun u => (u.toNat : Int)) = a := by
 rw [strOfNums_data, List.map_map]
 conv => rhs; rw [← List.map_id a]
 refine List.map_congr_left fun x hx => ?_
 have := h x hx
 show ((UInt8.ofNat x.toNat).toNat : Int) = x
 rw [UInt8.toNat_ofNat']
 omega
theorem FV {a b : List Int} (ha : gU a) (hb : gU b) : ((strOfNums a).toList == (strOfNums b).toList) = decide (a = b) := by
 by_cases h : a = b
 ·subst h; rw [decide_eq_true rfl, beq_self_eq_true]
 ·rw [decide_eq_false h, beq_eq_false_iff_ne]
  intro e
  rw [ByteArray.toList_eq, ByteArray.toList_eq] at e
  refine h ?_
  rw [← AP ha, ← AP hb, e]
theorem js {a b : List Int} (ha : gU a) (hb : gU b) : gU (a ++ b) := fun e he => (List.mem_append.1 he).elim (ha e) (hb e)
theorem oS : ∀ n : Nat, gU (vi n) := by
 intro n
 induction n using Nat.strongRecOn with
 | ind n ih =>
  by_cases h : n < 128
  ·rw [ik h]; intro e he; have := List.mem_singleton.1 he; omega
  ·rw [nT h]
   intro e he
   rcases List.mem_cons.1 he with h1 | h1
   ·omega
   ·exact ih (n / 128) (by omega) e h1
theorem Gj : ∀ l : List Int, gU (eP l)
 | [] => fun e he => by cases he
 | x :: t => by rw [ui]; exact js (oS _) (Gj t)
theorem BR : ∀ (l : List Int) (p : Int), gU (eD p l)
 | [], p => fun e he => by cases he
 | x :: t, p => by rw [eD]; exact js (oS _) (BR t x)
theorem JY : ∀ (m : Nat) (l : List Int), l.length = m → gU (eR l) := by
 intro m
 induction m using Nat.strongRecOn with
 | ind m ih =>
  intro l hl
  cases l with
  | nil => rw [eR]; intro e he; cases he
  | cons x t =>
   have := (List.dropWhile_sublist (fun y => y == x) (l := t)).length_le
   simp only [List.length_cons] at hl
   rw [u5]
   exact js (js (oS _) (oS _)) (ih _ (by omega) _ rfl)
theorem Bu {l : List Int} (hl : l.length ≤ 10000000) (hr : np l) : gU (eF l) := by
 cases l with
 | nil => intro e he; cases he
 | cons x t =>
  have hF := GW hl hr
  have hw := hF.fit.w62
  have := (H5 hF.fit).by8
  simp only [eF]
  refine js (js (oS _) fun e he => ?_) this
  have := List.mem_singleton.1 he
  omega
theorem IC {l : List Int} (hl : l.length ≤ 10000000) (hr : np l) (kind : Int) : gU (enc kind l) := by
 unfold enc
 split
 ·exact JY _ l rfl
 split
 ·exact BR _ _
 split
 ·exact Bu hl hr
 split
 ·obtain ⟨w1, w2, w3⟩ := yn l
  have hpl : (ra (ws l) l).length = l.length := by simp [ra]
  exact js (js (oS _) (BR _ _)) (Bu (by omega) (uH (by omega)))
 ·exact Gj l
theorem Ee : sI = some true := by
 have e : qO 2 [1, 2, 3] = some ([57], 0) := by
  unfold qO lz
  rw [show decide ((2 : Int) < 0) = false from rfl, show decide ((62 : Int) < 2) = false from rfl, aF, aF]
  have hc : bA [1, 2, 3] (2 : Int) = some false := Db (w := 2) (by decide) (l := [1, 2, 3]) (by decide)
  rw [hc, au, aF]
  have hF : su 2 [1, 2, 3] := ⟨by decide, by decide, by decide⟩
  obtain ⟨out, o1, o2⟩ := IP hF
  have hI : zZ (qL 2 [1, 2, 3]) (([1, 2, 3].length * 2 + 7) / 8) [57] ([1, 2, 3].length * 2) := ⟨by decide, fun e he => by simp at he; omega, by decide⟩
  have := zf o2 hI
  subst this
  have o1' : kr 2 [1, 2, 3] = some [57] := o1
  rw [o1']; rfl
 unfold sI oT
 rw [e, au]
 unfold ku
 simp only [beq_self_eq_true, aS, au]
theorem Rd.len {kind n : Int} {b : List Int} {r : List Int × Int} (h : Rd kind n b r) : r.1.length < 1000000000 := by
 rcases h with ⟨_, rfl⟩ | ⟨h0, ⟨l, _, h2, _, rfl⟩ | ⟨_, rfl⟩⟩
 ·simp
 ·simp only; omega
 ·simp
end Go.Proofs.YtnecojeemmnnaaaGreatDoor
namespace Go.Proofs.YtnecojeemmnnaaaGreatDoor
open Go Go.SX Go.SX.Cal
def Ac : List UInt8 → List UInt8 → Nat
 | x :: u, y :: v => if x = y then Ac u v + 1 else 0
 | [], _ => 0
 | _, [] => 0
theorem FU (a : List UInt8) : Ac a [] = 0 := by cases a <;> rfl
theorem Gh : ∀ a b : List UInt8, Ac a b ≤ a.length
 | x :: u, y :: v => by
  rw [Ac]; have := Gh u v
  split
  ·simp; omega
  ·simp
 | [], _ => by simp [Ac]
 | _ :: _, [] => by simp [Ac]
theorem FT : ∀ a b : List UInt8, Ac a b ≤ b.length
 | x :: u, y :: v => by
  rw [Ac]; have := FT u v
  split
  ·simp; omega
  ·simp
 | [], _ => by simp [Ac]
 | _ :: _, [] => by simp [Ac]
theorem Do : ∀ a b : List UInt8, a.take (Ac a b) = b.take (Ac a b)
 | x :: u, y :: v => by
  rw [Ac]; have := Do u v
  split
  ·rename_i h; rw [h, List.take_succ_cons, List.take_succ_cons, this]
  ·simp
 | [], _ => by simp [Ac]
 | _ :: _, [] => by simp [Ac]
def cm (a b : ByteArray) : Nat := Ac a.data.toList b.data.toList
theorem Hx (a b : ByteArray) : cm a b ≤ a.size := by have := Gh a.data.toList b.data.toList; rw [Array.length_toList] at this; exact this
theorem zL (a b : ByteArray) : cm a b ≤ b.size := by have := FT a.data.toList b.data.toList; rw [Array.length_toList] at this; exact this
theorem Cp {a b : ByteArray} (ha : a.size < 1000000000) (hb : b.size < 1000000000) : ∀ (m f i : Nat), i + m = a.size → m < f → dq a b f (i : Int) = some ((i + Ac (a.data.toList.drop i) (b.data.toList.drop i) : Nat) : Int) := by
 have hA : a.data.toList.length = a.size := by simp
 have hB : b.data.toList.length = b.size := by simp
 intro m
 induction m with
 | zero =>
  intro f i hi hf
  obtain ⟨f, rfl⟩ := aL hf
  rw [dq, bL (by omega), aj, List.drop_of_length_le (l := a.data.toList) (by omega)]
  unfold hU j3
  rw [aj, Ac]; rfl
 | succ m ih =>
  intro f i hi hf
  obtain ⟨f, rfl⟩ := aL hf
  have hia : i < a.size := by omega
  rw [dq, aU hia, aE]
  by_cases hib : i < b.size
  ·have e1 : a.data.toList.getD i 0 = a.data.toList[i]'(by omega) := by simp [List.getD, hia]
   have e2 : b.data.toList.getD i 0 = b.data.toList[i]'(by omega) := by simp [List.getD, hib]
   rw [aU hib, aE, aJ (by omega), aJ (by omega), ab, Int.toNat_natCast, e1, e2, List.drop_eq_getElem_cons (l := a.data.toList) (i := i) (by omega), List.drop_eq_getElem_cons (l := b.data.toList) (i := i) (by omega), Ac]
   unfold hU
   by_cases h : a.data.toList[i]'(by omega) = b.data.toList[i]'(by omega)
   ·rw [if_pos h, h, beq_self_eq_true, aE, al hia ha, ih f (i + 1) (by omega) (by omega)]
    congr 2; omega
   ·have hne : (((a.data.toList[i]'(by omega)).toNat : Int) == ((b.data.toList[i]'(by omega)).toNat : Int)) = false := by
     rw [beq_eq_false_iff_ne]
     intro e
     exact h (UInt8.toNat_inj.1 (by omega))
    rw [if_neg h, hne, aj]
    unfold j3
    rfl
  ·rw [bL hib, aj, List.drop_of_length_le (l := b.data.toList) (by omega), FU]
   unfold hU j3
   rw [aj]; rfl
theorem JF {a b : ByteArray} (ha : a.size < 1000000000) (hb : b.size < 1000000000) : rI a b = some ((cm a b : Nat) : Int) := by
 have := Cp ha hb a.size aK 0 (by omega) (by rw [cI]; omega)
 rw [Nat.zero_add, List.drop_zero, List.drop_zero] at this
 exact this
theorem Cs {a b : ByteArray} (ha : a.size < 1000000000) (hb : b.size < 1000000000) : ∀ (m f i : Nat), i + m = a.size → m < f → ce a b f (i : Int) = some ((i + Ac (a.data.toList.drop i) (b.data.toList.drop i) : Nat) : Int) := by
 have hA : a.data.toList.length = a.size := by simp
 have hB : b.data.toList.length = b.size := by simp
 intro m
 induction m with
 | zero =>
  intro f i hi hf
  obtain ⟨f, rfl⟩ := aL hf
  rw [ce, bL (by omega), aj, List.drop_of_length_le (l := a.data.toList) (by omega)]
  unfold eQ iX
  rw [aj, Ac]; rfl
 | succ m ih =>
  intro f i hi hf
  obtain ⟨f, rfl⟩ := aL hf
  have hia : i < a.size := by omega
  rw [ce, aU hia, aE]
  by_cases hib : i < b.size
  ·have e1 : a.data.toList.getD i 0 = a.data.toList[i]'(by omega) := by simp [List.getD, hia]
   have e2 : b.data.toList.getD i 0 = b.data.toList[i]'(by omega) := by simp [List.getD, hib]
   rw [aU hib, aE, aJ (by omega), aJ (by omega), ab, Int.toNat_natCast, e1, e2, List.drop_eq_getElem_cons (l := a.data.toList) (i := i) (by omega), List.drop_eq_getElem_cons (l := b.data.toList) (i := i) (by omega), Ac]
   unfold eQ
   by_cases h : a.data.toList[i]'(by omega) = b.data.toList[i]'(by omega)
   ·rw [if_pos h, h, beq_self_eq_true, aE, al hia ha, ih f (i + 1) (by omega) (by omega)]
    congr 2; omega
   ·have hne : (((a.data.toList[i]'(by omega)).toNat : Int) == ((b.data.toList[i]'(by omega)).toNat : Int)) = false := by
     rw [beq_eq_false_iff_ne]
     intro e
     exact h (UInt8.toNat_inj.1 (by omega))
    rw [if_neg h, hne, aj]
    unfold iX
    rfl
  ·rw [bL hib, aj, List.drop_of_length_le (l := b.data.toList) (by omega), FU]
   unfold eQ iX
   rw [aj]; rfl
theorem JD {a b : ByteArray} (ha : a.size < 1000000000) (hb : b.size < 1000000000) : oJ a b = some ((cm a b : Nat) : Int) := by
 have := Cs ha hb a.size aK 0 (by omega) (by rw [cI]; omega)
 rw [Nat.zero_add, List.drop_zero, List.drop_zero] at this
 exact this
theorem qb (s : ByteArray) : (cK s).length = s.size := by simp [cK]
theorem wx (s : ByteArray) {i : Nat} (h : i ≤ s.size) : (s.extract i s.size).size = s.size - i := by rw [ByteArray.size_extract]; omega
def xk (l : List ByteArray) : Prop := ∀ s ∈ l, s.size ≤ 256
theorem xk.get {l : List ByteArray} (h : xk l) {i : Nat} (hi : i < l.length) : l[i].size ≤ 256 := h _ (List.getElem_mem hi)
def tP (l : List ByteArray) : List Int := l.flatMap fun s => vi s.size ++ cK s
theorem uo (n : ByteArray) (t : List ByteArray) : tP (n :: t) = vi n.size ++ cK n ++ tP t := by simp [tP]
def tX : ByteArray → List ByteArray → List Int
 | _, [] => []
 | p, s :: t => vi (cm p s) ++ vi (s.size - cm p s) ++ cK (s.extract (cm p s) s.size) ++ tX s t
theorem mF {l : List ByteArray} {i : Nat} (hi : i < l.length) : l.drop i = l[i] :: l.drop (i + 1) := List.drop_eq_getElem_cons hi
theorem C6 {n : Nat} (h : n < 18446744073709551616) : IntKind.u64.wrap (n : Int) = (n : Int) := by rw [rA]; omega
theorem Jw {l : List ByteArray} (hl : l.length ≤ 10000000) (hr : xk l) : ∀ (m f i : Nat) (b : List Int), i + m = l.length → m < f → b.length + 300 * m ≤ 4000000000 →
  gG l f b (i : Int) = some (b ++ tP (l.drop i)) := by
 intro m
 induction m with
 | zero =>
  intro f i b hi hf hb
  obtain ⟨f, rfl⟩ := aL hf
  rw [gG, bL (by omega), aj, List.drop_of_length_le (by omega)]
  simp [pA, tP]
 | succ m ih =>
  intro f i b hi hf hb
  obtain ⟨f, rfl⟩ := aL hf
  have hil : i < l.length := by omega
  have hx := hr.get hil
  have h10 := gQ (n := l[i].size) (by omega)
  rw [gG, aU hil, aE, aH hil, ab, C6 (by omega), ow (by omega) (by omega), ab]
  simp only
  rw [aJ (by rw [List.length_append, qb]; omega), al hil (by omega), ih f (i + 1) _ (by omega) (by omega) (by rw [List.length_append, List.length_append, qb]; omega), mF hil, uo]
  simp only [List.append_assoc]
theorem Js {l : List ByteArray} (hl : l.length ≤ 10000000) (hr : xk l) : ∀ (m f i : Nat) (b : List Int), i + m = l.length → m < f → b.length + 300 * m ≤ 4000000000 →
  ji l f b (i : Int) = some (b ++ tP (l.drop i)) := by
 intro m
 induction m with
 | zero =>
  intro f i b hi hf hb
  obtain ⟨f, rfl⟩ := aL hf
  rw [ji, bL (by omega), aj, List.drop_of_length_le (by omega)]
  simp [rF, tP]
 | succ m ih =>
  intro f i b hi hf hb
  obtain ⟨f, rfl⟩ := aL hf
  have hil : i < l.length := by omega
  have hx := hr.get hil
  have h10 := gQ (n := l[i].size) (by omega)
  rw [ji, aU hil, aE, aH hil, ab, C6 (by omega), lJ (by omega), ab, aJ (by omega), aJ (by rw [List.length_append, qb]; omega), al hil (by omega), ih f (i + 1) _ (by omega) (by omega) (by rw [List.length_append, List.length_append, qb]; omega), mF hil, uo]
  simp only [List.append_assoc]
theorem MY {l : List ByteArray} (hl : l.length ≤ 10000000) (hr : xk l) : ∀ (m f i : Nat) (b : List Int) (p : ByteArray), i + m = l.length → m < f → b.length + 300 * m ≤ 4000000000 → p.size ≤ 256 →
  em l f b p (i : Int) = some (b ++ tX p (l.drop i)) := by
 intro m
 induction m with
 | zero =>
  intro f i b p hi hf hb hp
  obtain ⟨f, rfl⟩ := aL hf
  rw [em, bL (by omega), aj, List.drop_of_length_le (by omega)]
  simp [ng, tX]
 | succ m ih =>
  intro f i b p hi hf hb hp
  obtain ⟨f, rfl⟩ := aL hf
  have hil : i < l.length := by omega
  have hx := hr.get hil
  have hc := zL p l[i]
  have h1 := gQ (n := cm p l[i]) (by omega)
  have h2 := gQ (n := l[i].size - cm p l[i]) (by omega)
  have h3 : (cK (l[i].extract (cm p l[i]) l[i].size)).length = l[i].size - cm p l[i] := by rw [qb, wx _ hc]
  rw [em, aU hil, aE, aH hil, ab, JF (by omega) (by omega), ab, C6 (by omega), ow (by omega) (by omega), ab, hJ (x := (l[i].size : Int) - (cm p l[i] : Int)) (by omega) (by omega), show (l[i].size : Int) - (cm p l[i] : Int) = ((l[i].size - cm p l[i] : Nat) : Int) by omega, C6 (by omega)]
  simp only
  rw [ow (by omega) (by rw [List.length_append]; omega), ab, aJ (by omega)]
  simp only [Int.toNat_natCast]
  rw [aJ (by simp only [List.length_append]; omega), al hil (by omega), ih f (i + 1) _ _ (by omega) (by omega) (by simp only [List.length_append]; omega) hx, mF hil, tX]
  simp only [List.append_assoc]
theorem LO {l : List ByteArray} (hl : l.length ≤ 10000000) (hr : xk l) : ∀ (m f i : Nat) (b : List Int) (p : ByteArray), i + m = l.length → m < f → b.length + 300 * m ≤ 4000000000 → p.size ≤ 256 →
  fJ l f b p (i : Int) = some (b ++ tX p (l.drop i)) := by
 intro m
 induction m with
 | zero =>
  intro f i b p hi hf hb hp
  obtain ⟨f, rfl⟩ := aL hf
  rw [fJ, bL (by omega), aj, List.drop_of_length_le (by omega)]
  simp [oz, tX]
 | succ m ih =>
  intro f i b p hi hf hb hp
  obtain ⟨f, rfl⟩ := aL hf
  have hil : i < l.length := by omega
  have hx := hr.get hil
  have hc := zL p l[i]
  have h1 := gQ (n := cm p l[i]) (by omega)
  have h2 := gQ (n := l[i].size - cm p l[i]) (by omega)
  have h3 : (cK (l[i].extract (cm p l[i]) l[i].size)).length = l[i].size - cm p l[i] := by rw [qb, wx _ hc]
  rw [fJ, aU hil, aE, aH hil, ab, JD (by omega) (by omega), ab, C6 (by omega), lJ (by omega), ab, aJ (by omega), hJ (x := (l[i].size : Int) - (cm p l[i] : Int)) (by omega) (by omega), show (l[i].size : Int) - (cm p l[i] : Int) = ((l[i].size - cm p l[i] : Nat) : Int) by omega, C6 (by omega), lJ (by omega), ab, aJ (by rw [List.length_append]; omega), aJ (by omega)]
  simp only [Int.toNat_natCast]
  rw [aJ (by simp only [List.length_append]; omega), al hil (by omega), ih f (i + 1) _ _ (by omega) (by omega) (by simp only [List.length_append]; omega) hx, mF hil, tX]
  simp only [List.append_assoc]
def rE : ByteArray := ByteArray.mk #[]
theorem ze {l : List ByteArray} (hl : l.length ≤ 10000000) (hr : xk l) : mT l = some (tX rE l) := by
 have h := MY hl hr l.length aK 0 [] rE (by omega) (by rw [cI]; omega) (by simp; omega) (by show (0 : Nat) ≤ 256; omega)
 rw [show ((0 : Nat) : Int) = 0 from rfl, List.nil_append, List.drop_zero] at h
 exact h
theorem zW {l : List ByteArray} (hl : l.length ≤ 10000000) (hr : xk l) : pc l = some (tX rE l) := by
 have h := LO hl hr l.length aK 0 [] rE (by omega) (by rw [cI]; omega) (by simp; omega) (by show (0 : Nat) ≤ 256; omega)
 rw [show ((0 : Nat) : Int) = 0 from rfl, List.nil_append, List.drop_zero] at h
 exact h
theorem zT : ∀ (l : List ByteArray) (p : ByteArray), xk l → (tX p l).length ≤ 300 * l.length
 | [], _, _ => by simp [tX]
 | s :: t, p, hr => by
  have hs := hr s (List.mem_cons_self ..)
  have := zT t s (fun x hx => hr x (List.mem_cons_of_mem _ hx))
  have hc := zL p s
  have h1 := gQ (n := cm p s) (by omega)
  have h2 := gQ (n := s.size - cm p s) (by omega)
  simp only [tX, List.length_append, List.length_cons, qb, wx _ hc]; omega
end Go.Proofs.YtnecojeemmnnaaaGreatDoor
namespace Go.Proofs.YtnecojeemmnnaaaGreatDoor
open Go Go.SX Go.SX.Cal
abbrev ST (l : List ByteArray) : Prop := l.Pairwise fun x y => jC x y < 0
theorem xI {x : ByteArray} (h : jC x x < 0) : False := by rw [ur] at h; omega
theorem L9 {x y : ByteArray} (h : jC x y < 0) (k : jC y x < 0) : False := xI (oL h k)
theorem Cc (x y : ByteArray) : jC x y < 0 ∨ x = y ∨ jC y x < 0 := by
 have := lZ x y
 by_cases h : jC x y = 0
 ·exact .inr (.inl (rT h))
 ·by_cases k : jC x y < 0
  ·exact .inl k
  ·exact .inr (.inr (by omega))
theorem LH {x y z : ByteArray} (h : jC x y ≤ 0) (k : jC y z ≤ 0) : jC x z ≤ 0 := by
 rcases Cc x y with a | rfl | a
 ·rcases Cc y z with b | rfl | b
  ·have := oL a b; omega
  ·exact h
  ·have := lZ y z; omega
 ·exact k
 ·have := lZ x y; omega
theorem Fa : ∀ (a b : List ByteArray), ST a → ST b → (∀ x, x ∈ a ↔ x ∈ b) → a = b
 | [], [], _, _, _ => rfl
 | [], y :: t, _, _, h => absurd ((h y).2 (List.mem_cons_self ..)) (by simp)
 | x :: s, [], _, _, h => absurd ((h x).1 (List.mem_cons_self ..)) (by simp)
 | x :: s, y :: t, ha, hb, h => by
  obtain ⟨a1, a2⟩ := List.pairwise_cons.1 ha
  obtain ⟨b1, b2⟩ := List.pairwise_cons.1 hb
  have e : x = y := by
   rcases List.mem_cons.1 ((h x).1 (List.mem_cons_self ..)) with e | e
   ·exact e
   ·rcases List.mem_cons.1 ((h y).2 (List.mem_cons_self ..)) with e' | e'
    ·exact e'.symm
    ·exact (L9 (a1 _ e') (b1 _ e)).elim
  subst e
  rw [Fa s t a2 b2 fun z => ?_]
  constructor
  ·intro hz
   rcases List.mem_cons.1 ((h z).1 (List.mem_cons_of_mem _ hz)) with e | e
   ·subst e; exact (xI (a1 _ hz)).elim
   ·exact e
  ·intro hz
   rcases List.mem_cons.1 ((h z).2 (List.mem_cons_of_mem _ hz)) with e | e
   ·subst e; exact (xI (b1 _ hz)).elim
   ·exact e
def wt (l : List ByteArray) : List ByteArray := Go.Lib.compact (l.mergeSort B7)
theorem Pk (l : List ByteArray) : ∀ i j (hi : i < (l.mergeSort B7).length) (hj : j < (l.mergeSort B7).length), i < j → jC (l.mergeSort B7)[i] (l.mergeSort B7)[j] ≤ 0 := by
 have h : (l.mergeSort B7).Pairwise (fun x y => B7 x y = true) := List.pairwise_mergeSort (fun a b c h1 h2 => by
  unfold B7 at *
  rw [decide_eq_true_iff] at *
  exact LH h1 h2) (fun a b => by
  unfold B7
  rw [Bool.or_eq_true, decide_eq_true_iff, decide_eq_true_iff]
  have := lZ a b; omega) l
 rw [List.pairwise_iff_getElem] at h
 intro i j hi hj hij
 exact of_decide_eq_true (h i j hi hj hij)
theorem Iy {d : Array ByteArray} (hs : ∀ i j, i ≤ j → j < d.size → jC d[i]! d[j]! ≤ 0) : ∀ m, m ≤ d.size → ST (Go.Lib.compactUpTo d m) ∧ (∀ x, x ∈ Go.Lib.compactUpTo d m ↔ ∃ j, j < m ∧ d[j]! = x) ∧ (Go.Lib.compactUpTo d m).length ≤ m := by
 intro m
 induction m with
 | zero => intro _; simp [Go.Lib.compactUpTo]
 | succ m ih =>
  intro hm
  obtain ⟨i1, i2, i3⟩ := ih (by omega)
  rw [Go.Lib.compactUpTo_succ]
  cases hk : Go.Lib.keeps d m with
  | false =>
   have hk' : ¬ (m = 0 ∨ d[m]! ≠ d[m - 1]!) := of_decide_eq_false hk
   have h0 : m ≠ 0 := fun e => hk' (.inl e)
   have h1 : d[m]! = d[m - 1]! := Classical.byContradiction fun e => hk' (.inr e)
   rw [if_neg (by simp), List.append_nil]
   refine ⟨i1, fun x => ?_, by omega⟩
   rw [i2]
   constructor
   ·rintro ⟨j, hj, e⟩; exact ⟨j, by omega, e⟩
   ·rintro ⟨j, hj, e⟩
    by_cases hjm : j = m
    ·subst hjm; exact ⟨j - 1, by omega, by rw [← h1]; exact e⟩
    ·exact ⟨j, by omega, e⟩
  | true =>
   have hk' : m = 0 ∨ d[m]! ≠ d[m - 1]! := of_decide_eq_true hk
   rw [if_pos rfl]
   refine ⟨List.pairwise_append.2 ⟨i1, List.pairwise_singleton .., fun a ha b hb => ?_⟩, fun x => ?_, by simp; omega⟩
   ·have : b = d[m]! := by simpa using hb
    subst this
    obtain ⟨j, hj, e⟩ := (i2 a).1 ha
    rcases hk' with h0 | h0
    ·omega
    ·have h1 := hs j (m - 1) (by omega) (by omega)
     have h2 := hs (m - 1) m (by omega) (by omega)
     rw [← e]
     rcases Cc d[j]! d[m]! with a | a | a
     ·exact a
     ·rw [a] at h1
      have := lZ d[m - 1]! d[m]!
      exact absurd (rT (a := d[m - 1]!) (b := d[m]!) (by omega)).symm h0
     ·have := LH h1 h2
      have := lZ d[j]! d[m]!
      omega
   ·rw [List.mem_append, i2]
    constructor
    ·rintro (⟨j, hj, e⟩ | h)
     ·exact ⟨j, by omega, e⟩
     ·exact ⟨m, by omega, by simpa using (List.mem_singleton.1 h).symm⟩
    ·rintro ⟨j, hj, e⟩
     by_cases hjm : j = m
     ·subst hjm; exact .inr (by rw [← e]; exact List.mem_singleton.2 rfl)
     ·exact .inl ⟨j, by omega, e⟩
theorem wL (l : List ByteArray) : ST (wt l) ∧ (∀ x, x ∈ wt l ↔ x ∈ l) ∧ (wt l).length ≤ l.length := by
 have hsz : (l.mergeSort B7).length = l.length := by simp
 have h := Iy (d := (l.mergeSort B7).toArray) (fun i j hij hj => by
  have hj' : j < (l.mergeSort B7).length := by simpa using hj
  rw [getElem!_pos _ i (by simp at hj ⊢; omega), getElem!_pos _ j hj]
  rcases Nat.lt_or_ge i j with h | h
  ·exact Pk l i j (by omega) hj' h
  ·have : i = j := by omega
   subst this
   show jC _ _ ≤ 0
   rw [ur]; exact Int.le_refl _) (l.mergeSort B7).length (by simp)
 obtain ⟨h1, h2, h3⟩ := h
 refine ⟨h1, fun x => ?_, Nat.le_trans h3 (Nat.le_of_eq hsz)⟩
 show x ∈ Go.Lib.compactUpTo _ _ ↔ _
 rw [h2]
 constructor
 ·rintro ⟨j, hj, e⟩
  rw [getElem!_pos _ j (by simpa using hj)] at e
  rw [← e]
  have : ((l.mergeSort B7).toArray)[j]'(by simpa using hj) ∈ (l.mergeSort B7) := by simp
  exact List.mem_mergeSort.1 this
 ·intro hx
  obtain ⟨j, hj, e⟩ := List.getElem_of_mem (List.mem_mergeSort (le := B7) |>.2 hx)
  exact ⟨j, hj, by rw [getElem!_pos _ j (by simpa using hj)]; simpa using e⟩
def wg (n : ByteArray) (x : ByteArray) : Bool := decide (jC x n < 0)
theorem Lo : ∀ a b : List UInt8, Op.bytesLess a b = decide (Lib.compareBytes a b < 0)
 | [], [] => rfl
 | [], _ :: _ => rfl
 | _ :: _, [] => rfl
 | x :: a, y :: b => by
  rw [Op.bytesLess, Lib.compareBytes, Lo a b]
  by_cases h1 : x < y
  ·rw [if_pos h1]; simp [h1]
  ·rw [if_neg h1]
   by_cases h2 : y < x
   ·have : (x == y) = false := by
     rw [beq_eq_false_iff_ne]; intro e; subst e; exact UInt8.lt_irrefl _ h2
    rw [if_pos h2]; simp [h1, this]
   ·have : x = y := UInt8.le_antisymm (UInt8.not_lt.1 h2) (UInt8.not_lt.1 h1)
    subst this
    rw [if_neg h2]; simp [h1]
theorem Ms (x n : ByteArray) : Op.bytesLess x.toList n.toList = wg n x := by
 rw [ByteArray.toList_eq, ByteArray.toList_eq, Lo]; rfl
theorem Of (x n : ByteArray) : (x.toList == n.toList) = decide (x = n) := by
 rw [ByteArray.toList_eq, ByteArray.toList_eq, Bool.eq_iff_iff, beq_iff_eq, decide_eq_true_iff]
 exact ⟨fun h => ByteArray.ext (Array.toList_inj.1 h), fun h => by rw [h]⟩
def Ok (n : ByteArray) (out : List ByteArray) : List ByteArray :=
 if (out.dropWhile (wg n)).head? = some n then out else out.takeWhile (wg n) ++ n :: out.dropWhile (wg n)
theorem D6 (n : ByteArray) : ∀ (l : List ByteArray), ∀ x ∈ l.takeWhile (wg n), jC x n < 0
 | [], x, h => by simp at h
 | y :: t, x, h => by
  cases hy : wg n y with
  | true =>
   rw [List.takeWhile_cons, hy, if_pos rfl] at h
   rcases List.mem_cons.1 h with rfl | h
   ·exact of_decide_eq_true hy
   ·exact D6 n t x h
  | false => rw [List.takeWhile_cons, hy, if_neg (by simp)] at h; cases h
theorem zX (n : ByteArray) : ∀ (l : List ByteArray) (y : ByteArray) (t : List ByteArray), l.dropWhile (wg n) = y :: t → ¬ jC y n < 0
 | [], y, t, h => by simp at h
 | z :: s, y, t, h => by
  cases hz : wg n z with
  | true => rw [List.dropWhile_cons, hz, if_pos rfl] at h; exact zX n s y t h
  | false =>
   rw [List.dropWhile_cons, hz, if_neg (by simp)] at h
   cases h; exact of_decide_eq_false hz
theorem LL {n : ByteArray} {out : List ByteArray} (h : ST out) : ST (Ok n out) ∧ (∀ x, x ∈ Ok n out ↔ x = n ∨ x ∈ out) ∧ (Ok n out).length ≤ out.length + 1 := by
 have hsp : out.takeWhile (wg n) ++ out.dropWhile (wg n) = out := List.takeWhile_append_dropWhile
 have h1 := D6 n out
 have h2 := zX n out
 unfold Ok
 generalize out.takeWhile (wg n) = a at *
 generalize out.dropWhile (wg n) = b at *
 subst hsp
 obtain ⟨p1, p2, p3⟩ := List.pairwise_append.1 h
 by_cases hb : b.head? = some n
 ·rw [if_pos hb]
  refine ⟨h, fun x => ⟨.inr, ?_⟩, by omega⟩
  rintro (rfl | hx)
  ·exact List.mem_append_right _ (List.mem_of_mem_head? hb)
  ·exact hx
 ·rw [if_neg hb]
  refine ⟨List.pairwise_append.2 ⟨p1, List.pairwise_cons.2 ⟨fun y hy => ?_, p2⟩, fun x hx y hy => ?_⟩, fun x => ?_, by simp; omega⟩
  ·cases b with
   | nil => cases hy
   | cons z t =>
    have hz := h2 z t rfl
    have hne : z ≠ n := fun e => hb (by rw [e]; rfl)
    have hnz : jC n z < 0 := by
     rcases Cc n z with a | a | a
     ·exact a
     ·exact absurd a.symm hne
     ·exact absurd a hz
    rcases List.mem_cons.1 hy with rfl | hy
    ·exact hnz
    ·exact oL hnz ((List.pairwise_cons.1 p2).1 y hy)
  ·rcases List.mem_cons.1 hy with rfl | hy
   ·exact h1 x hx
   ·exact p3 x hx y hy
  ·simp only [List.mem_append, List.mem_cons]
   constructor
   ·rintro (h | h | h)
    ·exact .inr (.inl h)
    ·exact .inl h
    ·exact .inr (.inr h)
   ·rintro (h | h | h)
    ·exact .inr (.inl h)
    ·exact .inl h
    ·exact .inr (.inr h)
theorem Dh {a b : List ByteArray} {n z : ByteArray} : (a ++ z :: b).set a.length n = a ++ n :: b := by
 rw [List.set_append_right _ _ (Nat.le_refl _), Nat.sub_self, List.set_cons_zero]
theorem Oy {rec1 : List ByteArray → Int → Option (List ByteArray)} {x1 : Int} {n : ByteArray} {a b : List ByteArray} (hl : (a ++ b).length ≤ 10000000) :
  iZ rec1 (a ++ b) x1 n (a.length : Int) = i0 rec1 x1 (if b.head? = some n then a ++ b else a ++ n :: b) := by
 have hla : a.length ≤ 10000000 := by simp at hl; omega
 have hlb : a.length + b.length ≤ 10000000 := by simpa using hl
 have hw : IntKind.i64.wrap ((a.length : Int) + 1) = ((a.length + 1 : Nat) : Int) := by rw [hJ (by omega) (by omega)]; omega
 unfold iZ
 cases b with
 | nil =>
  have hd1 : decide ((a.length : Int) < ((a.length : Nat) : Int)) = false := by simp
  have hd2 : decide (((a.length + 1 : Nat) : Int) < (((a ++ [rE]).length : Nat) : Int)) = false := by simp
  have hd3 : decide ((a.length : Int) < (((a ++ [rE]).length : Nat) : Int)) = true := by simp; omega
  rw [List.append_nil, hd1, aj]
  unfold iY
  rw [aj, aJ (by omega), hw, show (ByteArray.mk #[]) = rE from rfl, hd2, aj, aJ (by simp; omega), hd3, aE, aJ (by simp; omega)]
  unfold eU
  rw [aH (show a.length < (a ++ [rE]).length by simp), ab, Int.toNat_natCast, Dh]
  simp
 | cons y t =>
  have hlt : a.length < (a ++ y :: t).length := by simp
  rw [aU hlt, aE, aH hlt, ab]
  have he : (a ++ y :: t)[a.length] = y := by simp
  rw [he, Of]
  unfold iY
  by_cases e : y = n
  ·rw [decide_eq_true e, aE, if_pos (by rw [e]; rfl)]
  ·rw [decide_eq_false e, aj, aJ (by simp at hlb ⊢; omega), hw, show (ByteArray.mk #[]) = rE from rfl, show decide (((a.length + 1 : Nat) : Int) < ((((a ++ y :: t) ++ [rE]).length : Nat) : Int)) = true by simp; omega, aE, aJ (by simp; omega), show decide ((a.length : Int) < ((((a ++ y :: t) ++ [rE]).length : Nat) : Int)) = true by simp; omega, aE, aJ (by simp; omega)]
   rw [if_neg (by simpa using e)]
   unfold eU
   rw [Int.toNat_natCast, Int.toNat_natCast, Nat.zero_add, Nat.zero_add]
   have hcp : qK ((a ++ y :: t) ++ [rE]) (a.length + 1) (((((a ++ y :: t) ++ [rE]).drop a.length).take (((a ++ y :: t) ++ [rE]).length - a.length)).take (min ((((a ++ y :: t) ++ [rE]).drop a.length).take (((a ++ y :: t) ++ [rE]).length - a.length)).length (((a ++ y :: t) ++ [rE]).length - (a.length + 1)))) = a ++ y :: (y :: t) := by
    have e1 : ((a ++ y :: t) ++ [rE]).drop a.length = (y :: t) ++ [rE] := by rw [List.append_assoc, List.drop_left]
    rw [e1, List.take_of_length_le (l := (y :: t) ++ [rE]) (by simp <;> omega), show min ((y :: t) ++ [rE]).length (((a ++ y :: t) ++ [rE]).length - (a.length + 1)) = (y :: t).length by simp; omega, List.take_left]
    rw [← Bn (by simp; omega)]
    have e2 : ((a ++ y :: t) ++ [rE]).take (a.length + 1) = a ++ [y] := by
     rw [show (a ++ y :: t) ++ [rE] = (a ++ [y]) ++ (t ++ [rE]) by simp, show a.length + 1 = (a ++ [y]).length by simp, List.take_left]
    rw [e2, List.drop_of_length_le (by simp; omega)]
    simp
   rw [hcp, aH (show a.length < (a ++ y :: y :: t).length by simp), ab, Dh]
theorem Nb {l : List ByteArray} (hl : l.length ≤ 10000000) (rec1 : List ByteArray → Int → Option (List ByteArray)) (x1 : Int) (n : ByteArray) : ∀ (m f j : Nat), j + m = l.length → m < f →
  cB rec1 l x1 n f (j : Int) = iZ rec1 l x1 n ((j + ((l.drop j).takeWhile (wg n)).length : Nat) : Int) := by
 intro m
 induction m with
 | zero =>
  intro f j hj hf
  obtain ⟨f, rfl⟩ := aL hf
  rw [cB, show decide ((j : Int) < ((l.length : Nat) : Int)) = false by simp; omega, aj, List.drop_of_length_le (by omega)]
  simp [i6, aj]
 | succ m ih =>
  intro f j hj hf
  obtain ⟨f, rfl⟩ := aL hf
  have hjl : j < l.length := by omega
  rw [cB, aU hjl, aE, aH hjl, ab, mF hjl, Ms]
  unfold i6
  cases h : wg n l[j] with
  | true => rw [aE, al hjl (by omega), ih f (j + 1) (by omega) (by omega), List.takeWhile_cons, h, if_pos rfl, List.length_cons, show j + 1 + ((l.drop (j + 1)).takeWhile (wg n)).length = j + (((l.drop (j + 1)).takeWhile (wg n)).length + 1) by omega]
  | false => rw [aj, List.takeWhile_cons, h, if_neg (by simp), List.length_nil, Nat.add_zero]
theorem Ii {l : List ByteArray} (hl : l.length ≤ 10000000) : ∀ (m f i : Nat) (out : List ByteArray), i + m = l.length → m < f → ST out → out.length ≤ i →
  ∃ r, aZ l f out (i : Int) = some r ∧ ST r ∧ ∀ x, x ∈ r ↔ x ∈ out ∨ x ∈ l.drop i := by
 intro m
 induction m with
 | zero =>
  intro f i out hi hf hs ho
  obtain ⟨f, rfl⟩ := aL hf
  rw [aZ, bL (by omega), aj, List.drop_of_length_le (by omega)]
  exact ⟨out, rfl, hs, fun x => by simp⟩
 | succ m ih =>
  intro f i out hi hf hs ho
  obtain ⟨f, rfl⟩ := aL hf
  have hil : i < l.length := by omega
  obtain ⟨o1, o2, o3⟩ := LL (n := l[i]) hs
  have hsp : out.takeWhile (wg l[i]) ++ out.dropWhile (wg l[i]) = out := List.takeWhile_append_dropWhile
  have hsc := Nb (l := out) (by omega) (aZ l f) (i : Int) l[i] out.length aK 0 (by omega) (by rw [cI]; omega)
  rw [Nat.zero_add, List.drop_zero, show ((0 : Nat) : Int) = 0 from rfl] at hsc
  rw [aZ, aU hil, aE, aH hil, ab, hsc]
  have hj := Oy (rec1 := aZ l f) (x1 := (i : Int)) (n := l[i]) (a := out.takeWhile (wg l[i])) (b := out.dropWhile (wg l[i])) (by rw [hsp]; omega)
  rw [hsp] at hj
  rw [hj]
  unfold i0
  rw [al hil (by omega)]
  obtain ⟨r, r1, r2, r3⟩ := ih f (i + 1) (Ok l[i] out) (by omega) (by omega) o1 (by omega)
  refine ⟨r, r1, r2, fun x => ?_⟩
  rw [r3, o2, mF hil, List.mem_cons]
  constructor
  ·rintro ((h | h) | h)
   ·exact .inr (.inl h)
   ·exact .inl h
   ·exact .inr (.inr h)
  ·rintro (h | h | h)
   ·exact .inl (.inr h)
   ·exact .inl (.inl h)
   ·exact .inr h
theorem Pd {l : List ByteArray} (hl : l.length ≤ 10000000) : md l = some (wt l) := by
 obtain ⟨r, r1, r2, r3⟩ := Ii hl l.length aK 0 [] (by omega) (by rw [cI]; omega) List.Pairwise.nil (by simp)
 unfold md
 rw [show ((0 : Nat) : Int) = 0 from rfl] at r1
 rw [r1]
 congr 1
 obtain ⟨w1, w2, _⟩ := wL l
 refine Fa _ _ r2 w1 fun x => ?_
 rw [r3, w2]; simp
end Go.Proofs.YtnecojeemmnnaaaGreatDoor
namespace Go.Proofs.YtnecojeemmnnaaaGreatDoor
open Go Go.SX Go.SX.Cal
def pt (w : List ByteArray) (x : ByteArray) : Nat := (w.takeWhile (wg x)).length
theorem Lt (w : List ByteArray) (x : ByteArray) : pt w x ≤ w.length := (List.takeWhile_sublist _).length_le
theorem LD {w : List ByteArray} {x : ByteArray} {h : Nat} (hh : h < w.length) (hp : h < pt w x) : jC w[h] x < 0 := by
 have hsp : w.takeWhile (wg x) ++ w.dropWhile (wg x) = w := List.takeWhile_append_dropWhile
 have h1 := D6 x w
 unfold pt at hp
 have e : w[h]? = (w.takeWhile (wg x))[h]? := by
  conv => lhs; rw [← hsp]
  exact List.getElem?_append_left hp
 rw [List.getElem?_eq_getElem hh, List.getElem?_eq_getElem hp] at e
 rw [Option.some.inj e]
 exact h1 _ (List.getElem_mem hp)
theorem LE {w : List ByteArray} (hs : ST w) {x : ByteArray} {h : Nat} (hh : h < w.length) (hp : pt w x ≤ h) : ¬ jC w[h] x < 0 := by
 have hsp : w.takeWhile (wg x) ++ w.dropWhile (wg x) = w := List.takeWhile_append_dropWhile
 have h2 := zX x w
 unfold pt at hp
 have e : w[h]? = (w.dropWhile (wg x))[h - pt w x]? := by
  conv => lhs; rw [← hsp]
  exact List.getElem?_append_right hp
 have hd : h - pt w x < (w.dropWhile (wg x)).length := by
  have := congrArg List.length hsp
  rw [List.length_append] at this
  unfold pt; omega
 rw [List.getElem?_eq_getElem hh, List.getElem?_eq_getElem hd] at e
 rw [Option.some.inj e]
 have hss : ST (w.dropWhile (wg x)) := by
  have := hs
  rw [← hsp] at this
  exact (List.pairwise_append.1 this).2.1
 generalize w.dropWhile (wg x) = b at *
 cases b with
 | nil => simp at hd
 | cons y t =>
  have hy := h2 y t rfl
  generalize h - pt w x = k at *
  cases k with
  | zero => exact hy
  | succ k =>
   have hk : k < t.length := by simpa using hd
   have := (List.pairwise_cons.1 hss).1 t[k] (List.getElem_mem hk)
   simp only [List.getElem_cons_succ]
   intro h3
   exact hy (oL this h3)
theorem FW {w : List ByteArray} (hs : ST w) {x : ByteArray} (hx : x ∈ w) : ∃ h : pt w x < w.length, w[pt w x] = x := by
 obtain ⟨j, hj, e⟩ := List.getElem_of_mem hx
 have h1 : pt w x ≤ j := Nat.le_of_not_lt fun h => by have := LD hj h; rw [e] at this; exact xI this
 have hlt : pt w x < w.length := by omega
 refine ⟨hlt, ?_⟩
 have h2 := LE hs hlt (Nat.le_refl _)
 rcases Nat.lt_or_ge (pt w x) j with h | h
 ·have := List.pairwise_iff_getElem.1 hs _ _ hlt hj h
  rw [e] at this; exact absurd this h2
 ·have key : ∀ k (hk : k < w.length), k = j → w[k] = x := fun k hk hkj => by subst hkj; exact e
  exact key _ hlt (by omega)
theorem NY {w : List ByteArray} (hs : ST w) {x : ByteArray} (hx : x ∈ w) {i : Nat} (hi : i < w.length) (hne : i ≠ pt w x) : w[i] ≠ x := by
 obtain ⟨h1, h2⟩ := FW hs hx
 intro e
 rcases Nat.lt_or_ge i (pt w x) with h | h
 ·have := List.pairwise_iff_getElem.1 hs _ _ hi h1 h; rw [h2, e] at this; exact xI this
 ·have := List.pairwise_iff_getElem.1 hs _ _ h1 hi (by omega); rw [h2, e] at this; exact xI this
theorem wd (s : ByteArray) : strOfNums (cK s) = s := by
 unfold strOfNums cK
 rw [List.map_map]
 have : (List.map ((fun n : Int => UInt8.ofNat n.toNat) ∘ fun b : UInt8 => (b.toNat : Int)) s.data.toList) = s.data.toList := by
  conv => rhs; rw [← List.map_id s.data.toList]
  refine List.map_congr_left fun b _ => ?_
  simp
 rw [this]
theorem IY (a b : ByteArray) : lD a b = some (jC a b) := by
 unfold lD ri JJ
 rw [wd, wd]; rfl
theorem MT {w : List ByteArray} (hs : ST w) (hl : w.length ≤ 10000000) {x : ByteArray} : ∀ (m f i j : Nat), i + m = j → m < f → i ≤ pt w x → pt w x ≤ j → j ≤ w.length →
  ∃ b, am w x f (i : Int) (j : Int) = some (((pt w x : Nat) : Int), b) := by
 intro m
 induction m using Nat.strongRecOn with
 | ind m ih =>
  intro f i j hm hf h1 h2 h3
  obtain ⟨f, rfl⟩ := aL hf
  rw [am]
  by_cases hij : i < j
  ·have hh : (i + j) / 2 < w.length := by omega
   have e1 : ((IntKind.u64.wrap (IntKind.i64.wrap ((i : Int) + (j : Int)))).fdiv (2 ^ (min (1 : Int).toNat (IntKind.u64).bits))) = (((i + j) / 2 : Nat) : Int) := by
    rw [hJ (by omega) (by omega), rA, show ((i : Int) + (j : Int)) % 18446744073709551616 = ((i + j : Nat) : Int) by omega]
    exact Nt (i + j) 1 (by decide)
   rw [aU hij, aE, e1, ab, hJ (x := (((i + j) / 2 : Nat) : Int)) (by omega) (by omega), aH hh, ab, IY, ab]
   by_cases hc : jC w[(i + j) / 2] x < 0
   ·have hlt : (i + j) / 2 < pt w x := Nat.lt_of_not_le fun h => LE hs hh h hc
    rw [decide_eq_true hc, aE, hJ (x := (((i + j) / 2 : Nat) : Int) + 1) (by omega) (by omega), show (((i + j) / 2 : Nat) : Int) + 1 = (((i + j) / 2 + 1 : Nat) : Int) by omega]
    exact ih (j - ((i + j) / 2 + 1)) (by omega) f _ j (by omega) (by omega) (by omega) h2 h3
   ·have hge : pt w x ≤ (i + j) / 2 := Nat.le_of_not_lt fun h => hc (LD hh h)
    rw [decide_eq_false hc, aj]
    exact ih ((i + j) / 2 - i) (by omega) f i _ (by omega) (by omega) h1 hge (by omega)
  ·have hi : i = pt w x := by omega
   clear ih
   subst hi
   rw [bL hij, aj]
   unfold bF aW
   by_cases hil : pt w x < w.length
   ·rw [aU hil, aE, aH hil, ab, IY, ab]; exact ⟨_, rfl⟩
   ·rw [bL hil, aj]; exact ⟨_, rfl⟩
def rJ (w l : List ByteArray) : List Int := l.map fun x => ((pt w x : Nat) : Int)
theorem DJ (w : List ByteArray) (x : ByteArray) (t : List ByteArray) : rJ w (x :: t) = ((pt w x : Nat) : Int) :: rJ w t := rfl
theorem Gu {l w : List ByteArray} (hs : ST w) (hl : l.length ≤ 10000000) (hwl : w.length ≤ 10000000) : ∀ (m f i : Nat) (b : List Int), i + m = l.length → m < f → b.length ≤ i →
  aN l w f b (i : Int) = some (w, b ++ rJ w (l.drop i)) := by
 intro m
 induction m with
 | zero =>
  intro f i b hi hf hb
  obtain ⟨f, rfl⟩ := aL hf
  rw [aN, bL (by omega), aj, List.drop_of_length_le (by omega)]
  simp [dw, rJ]
 | succ m ih =>
  intro f i b hi hf hb
  obtain ⟨f, rfl⟩ := aL hf
  have hil : i < l.length := by omega
  obtain ⟨fl, hbn⟩ := MT hs hwl (x := l[i]) w.length aK 0 w.length (by omega) (by rw [cI]; omega) (Nat.zero_le _) (Lt _ _) (Nat.le_refl _)
  rw [aN, aU hil, aE, aH hil, ab]
  unfold bc
  rw [show ((0 : Nat) : Int) = 0 from rfl] at hbn
  rw [hbn, ab, aJ (by omega), al hil (by omega), ih f (i + 1) _ (by omega) (by omega) (by simp; omega), mF hil, DJ]
  simp only [List.append_assoc, List.singleton_append]
theorem Dg {l : List ByteArray} (hl : l.length ≤ 10000000) : cz l = some (wt l, rJ (wt l) l) := by
 obtain ⟨w1, w2, w3⟩ := wL l
 unfold cz
 by_cases h0 : 0 < l.length
 ·have hne : l ≠ [] := fun e => by rw [e] at h0; simp at h0
  have hp := Gu w1 hl (by omega) l.length aK 0 [] (by omega) (by rw [cI]; omega) (by simp)
  rw [show ((0 : Nat) : Int) = 0 from rfl, List.nil_append, List.drop_zero] at hp
  rw [decide_eq_true h0, aE]
  unfold ju jM iN
  rw [aJ hne, aJ (by simp; omega), ab, List.nil_append, aJ (by omega), ab, aJ (by simp), aJ (by simp; omega), ab]
  exact hp
 ·have he : l = [] := List.length_eq_zero_iff.1 (by omega)
  subst he
  have hws : wt [] = [] := List.length_eq_zero_iff.1 (by simpa using w3)
  rw [hws]
  rfl
theorem IB {w : List ByteArray} (rec2 : List Int → Int → Option (List Int)) (x2 : Int) (hs : ST w) (hwl : w.length ≤ 10000000) {x : ByteArray} (hx : x ∈ w) : ∀ (m f i : Nat) (b : List Int), i + m = w.length → m < f → b.length + m ≤ 30000000 →
  gc rec2 w x2 x f b (i : Int) = oP rec2 x2 (if i ≤ pt w x then b ++ [((pt w x : Nat) : Int)] else b) := by
 obtain ⟨hlt, he⟩ := FW hs hx
 intro m
 induction m with
 | zero =>
  intro f i b hi hf hb
  obtain ⟨f, rfl⟩ := aL hf
  rw [gc, bL (by omega), aj, if_neg (by omega)]
 | succ m ih =>
  intro f i b hi hf hb
  obtain ⟨f, rfl⟩ := aL hf
  have hil : i < w.length := by omega
  rw [gc, aU hil, aE, aH hil, ab, Of]
  unfold oR
  by_cases h : i = pt w x
  ·have e : w[i] = x := by
    have key : ∀ k (hk : k < w.length), k = pt w x → w[k] = x := fun k hk hkj => by subst hkj; exact he
    exact key i hil h
   rw [decide_eq_true e, aE, aJ (by omega), al hil (by omega)]
   rw [if_pos (by omega), ih f (i + 1) _ (by omega) (by omega) (by simp; omega), if_neg (by omega), h]
  ·rw [decide_eq_false (NY hs hx hil h), aj, al hil (by omega), ih f (i + 1) b (by omega) (by omega) (by omega)]
   by_cases h2 : i ≤ pt w x
   ·rw [if_pos h2, if_pos (by omega)]
   ·rw [if_neg h2, if_neg (by omega)]
theorem He {l w : List ByteArray} (hs : ST w) (hl : l.length ≤ 10000000) (hwl : w.length ≤ 10000000) (hm : ∀ x ∈ l, x ∈ w) : ∀ (m f i : Nat) (b : List Int), i + m = l.length → m < f → b.length ≤ i →
  ew l w f b (i : Int) = oV w (b ++ rJ w (l.drop i)) := by
 intro m
 induction m with
 | zero =>
  intro f i b hi hf hb
  obtain ⟨f, rfl⟩ := aL hf
  rw [ew, bL (by omega), aj, List.drop_of_length_le (by omega)]
  simp [rJ]
 | succ m ih =>
  intro f i b hi hf hb
  obtain ⟨f, rfl⟩ := aL hf
  have hil : i < l.length := by omega
  have hp := IB (ew l w f) (i : Int) hs hwl (hm _ (List.getElem_mem hil)) w.length aK 0 b (by omega) (by rw [cI]; omega) (by omega)
  rw [show ((0 : Nat) : Int) = 0 from rfl, if_pos (Nat.zero_le _)] at hp
  rw [ew, aU hil, aE, aH hil, ab, hp]
  unfold oP
  rw [al hil (by omega), ih f (i + 1) _ (by omega) (by omega) (by simp; omega), mF hil, DJ]
  simp only [List.append_assoc, List.singleton_append]
def tW (l : List ByteArray) : List Int := vi (wt l).length ++ tX rE (wt l) ++ eF (rJ (wt l) l)
def kB (kind : Int) (l : List ByteArray) : List Int := if kind = 4 then tW l else if kind = 5 then tX rE l else tP l
theorem uy {w l : List ByteArray} (hw : w.length ≤ 10000000) : np (rJ w l) := by
 intro x hx
 obtain ⟨y, _, rfl⟩ := List.mem_map.1 hx
 have := Lt w y
 omega
theorem yU {l : List ByteArray} (h : xk l) : xk (wt l) := fun x hx => h x (((wL l).2.1 x).1 hx)
theorem KG {l : List ByteArray} (hl : l.length ≤ 10000000) (hr : xk l) (kind : Int) : pT kind l = some (kB kind l) := by
 unfold pT kB
 by_cases h4 : kind = 4
 ·obtain ⟨w1, w2, w3⟩ := wL l
  have hw := yU hr
  have hpl : (rJ (wt l) l).length = l.length := by simp [rJ]
  have hpi : np (rJ (wt l) l) := uy (by omega)
  have n1 := gQ (n := (wt l).length) (by omega)
  have n2 := zT (wt l) rE hw
  have n3 := vQ (l := rJ (wt l) l) (by omega) hpi
  rw [h4, show ((4 : Int) == 4) = true from rfl, aE, if_pos rfl, Dg hl, ab]
  simp only
  rw [C6 (by omega), yj (by omega), ab, ze (by omega) hw, ab, aJ (by omega), Bj (by omega) hpi, ab, aJ (by rw [List.length_append]; omega)]
  rfl
 rw [show (kind == 4) = false by simp [h4], aj, if_neg h4]
 by_cases h5 : kind = 5
 ·rw [h5, show ((5 : Int) == 5) = true from rfl, aE, if_pos rfl, ze hl hr]; rfl
 ·have h := Jw hl hr l.length aK 0 [] (by omega) (by rw [cI]; omega) (by simp; omega)
  rw [show ((0 : Nat) : Int) = 0 from rfl, List.nil_append, List.drop_zero] at h
  rw [show (kind == 5) = false by simp [h5], aj, if_neg h5, h]
theorem B9 {l : List ByteArray} (hl : l.length ≤ 10000000) (hr : xk l) {kind : Int} (hk : kind = 0 ∨ kind = 4 ∨ kind = 5) : kC kind l = some (kB kind l) := by
 unfold kC kB
 by_cases h0 : kind = 0
 ·have h := Js hl hr l.length aK 0 [] (by omega) (by rw [cI]; omega) (by simp; omega)
  rw [show ((0 : Nat) : Int) = 0 from rfl, List.nil_append, List.drop_zero] at h
  rw [h0, show ((0 : Int) == 0) = true from rfl, aE, h, if_neg (by omega), if_neg (by omega)]
 rw [show (kind == 0) = false by simp [h0], aj]
 by_cases h5 : kind = 5
 ·rw [h5, show ((5 : Int) == 5) = true from rfl, aE, if_neg (by omega), if_pos rfl, zW hl hr]; rfl
 ·have h4 : kind = 4 := by omega
  obtain ⟨w1, w2, w3⟩ := wL l
  have hw := yU hr
  have hpl : (rJ (wt l) l).length = l.length := by simp [rJ]
  have hpi : np (rJ (wt l) l) := uy (by omega)
  have n1 := gQ (n := (wt l).length) (by omega)
  have n2 := zT (wt l) rE hw
  have n3 := vQ (l := rJ (wt l) l) (by omega) hpi
  have hp := He w1 hl (by omega) (fun x hx => (w2 x).2 hx) l.length aK 0 [] (by omega) (by rw [cI]; omega) (by simp)
  rw [show ((0 : Nat) : Int) = 0 from rfl, List.nil_append, List.drop_zero] at hp
  rw [show (kind == 5) = false by simp [h5], aj, if_pos h4, Pd hl, ab, hp]
  unfold oV
  rw [C6 (by omega), lJ (by omega), ab, zW (by omega) hw, ab, aJ (by omega), Bz (by omega) hpi, ab, aJ (by rw [List.length_append]; omega)]
  rfl
end Go.Proofs.YtnecojeemmnnaaaGreatDoor
namespace Go.Proofs.YtnecojeemmnnaaaGreatDoor
open Go Go.SX Go.SX.Cal
theorem ID : ∀ (l : List Int), np l → (eP l).length ≤ 10 * l.length
 | [], _ => by simp [eP]
 | n :: t, hr => by
  have hn := hr n (List.mem_cons_self ..)
  have := ID t (fun x hx => hr x (List.mem_cons_of_mem _ hx))
  have := pC (n := n) (by omega)
  simp only [ui, List.length_append, List.length_cons]; omega
theorem Mz : ∀ (m : Nat) (l : List Int), l.length = m → l.length ≤ 10000000 → np l → (eR l).length ≤ 20 * l.length := by
 intro m
 induction m using Nat.strongRecOn with
 | ind m ih =>
  intro l hl hb hr
  cases l with
  | nil => simp [eR]
  | cons n t =>
   have hn := hr n (List.mem_cons_self ..)
   have h1 := pC (n := n) (by omega)
   have hd := (List.dropWhile_sublist (fun x => x == n) (l := t)).length_le
   have ht := Fp (· == n) t
   simp only [List.length_cons] at hl hb
   have h2 := gQ (n := 1 + (t.takeWhile (· == n)).length) (by omega)
   have := ih (t.dropWhile (· == n)).length (by omega) _ rfl (by omega) (fun x hx => hr x (List.mem_cons_of_mem _ ((List.dropWhile_sublist (fun x => x == n) (l := t)).subset hx)))
   simp only [u5, List.length_append, List.length_cons]; omega
theorem pb {l : List Int} (hl : l.length ≤ 10000000) (hr : np l) (kind : Int) : (enc kind l).length ≤ 2000000000 := by
 unfold enc
 split
 ·have := Mz _ l rfl hl hr; omega
 split
 ·have := zS l 0 hr (by omega); omega
 split
 ·have := vQ hl hr; omega
 split
 ·obtain ⟨w1, w2, w3⟩ := yn l
  have hw : np (ws l) := fun x hx => hr x ((w2 x).1 hx)
  have hpl : (ra (ws l) l).length = l.length := by simp [ra]
  have n1 := gQ (n := (ws l).length) (by omega)
  have n2 := zS (ws l) 0 hw (by omega)
  have n3 := vQ (l := ra (ws l) l) (by omega) (uH (by omega))
  simp only [eW, List.length_append]; omega
 ·have := ID l hr; omega
theorem HR : ∀ (l : List ByteArray), xk l → (tP l).length ≤ 300 * l.length
 | [], _ => by simp [tP]
 | s :: t, hr => by
  have hs := hr s (List.mem_cons_self ..)
  have := HR t (fun x hx => hr x (List.mem_cons_of_mem _ hx))
  have h1 := gQ (n := s.size) (by omega)
  simp only [uo, List.length_append, List.length_cons, qb]; omega
theorem rW {l : List ByteArray} (hl : l.length ≤ 10000000) (hr : xk l) (kind : Int) : (kB kind l).length ≤ 4000000000 := by
 unfold kB
 split
 ·obtain ⟨w1, w2, w3⟩ := wL l
  have hpl : (rJ (wt l) l).length = l.length := by simp [rJ]
  have n1 := gQ (n := (wt l).length) (by omega)
  have n2 := zT (wt l) rE (yU hr)
  have n3 := vQ (l := rJ (wt l) l) (by omega) (uy (by omega))
  simp only [tW, List.length_append]; omega
 split
 ·have := zT l rE hr; omega
 ·have := HR l hr; omega
def mn (a b : List Int) : List Int := if b.length < a.length then b else a
def Fv (s : List ByteArray) : List Int := mn (mn (0 :: kB 0 s) (4 :: kB 4 s)) (5 :: kB 5 s)
def Gl (n : List Int) : List Int := mn (mn (mn (mn (0 :: enc 0 n) (1 :: enc 1 n)) (2 :: enc 2 n)) (3 :: enc 3 n)) (4 :: enc 4 n)
theorem rd {a b : List Int} (ha : a ≠ []) (hb : b ≠ []) : mn a b ≠ [] := by unfold mn; split <;> assumption
theorem AQ (a b : List Int) : mn a b = a ∨ mn a b = b := by unfold mn; split; exact .inr rfl; exact .inl rfl
theorem mO {a b : List Int} {β : Type} (f : List Int → Option β) (h : (b.length : Int) = (b.length : Int)) : aq (decide (((b.length : Nat) : Int) < ((a.length : Nat) : Int))) (f b) (f a) = f (mn a b) := by
 unfold mn
 by_cases h : b.length < a.length
 ·rw [decide_eq_true (by omega), aE, if_pos h]
 ·rw [decide_eq_false (by omega), aj, if_neg h]
theorem DV {s : List ByteArray} (hl : s.length ≤ 10000000) (hr : xk s) (k : Int) : iF k s = some (kB k s) := by
 unfold iF
 rw [KG hl hr, ab]
theorem zO {n : List Int} (hl : n.length ≤ 10000000) (hr : np n) (k : Int) : eV k n = some (enc k n) := by
 unfold eV
 rw [GR hl hr, ab]
theorem Pz (i : Nat) (k : Int) (l : List Int) (h : l[i]? = some k) : at? l (i : Int) = some k := by unfold at?; simp [h]
theorem Jb {s : List ByteArray} (hl : s.length ≤ 10000000) (hr : xk s) : cE s = some (Fv s) := by
 have e0 := rW hl hr 0
 have e4 := rW hl hr 4
 have e5 := rW hl hr 5
 unfold cE
 rw [show (0 : Int) = ((0 : Nat) : Int) from rfl, Pz 0 0 _ rfl, ab, DV hl hr, ab, aJ (by simp; omega), show (1 : Int) = ((1 : Nat) : Int) from rfl, Pz 1 4 _ rfl, ab, DV hl hr, ab, aJ (by simp; omega), aJ (by simp), ab,
  show [IntKind.u8.wrap 0] ++ kB 0 s = 0 :: kB 0 s from rfl, show [IntKind.u8.wrap 4] ++ kB 4 s = 4 :: kB 4 s from rfl, mO _ rfl]
 unfold cj
 rw [show (2 : Int) = ((2 : Nat) : Int) from rfl, Pz 2 5 _ rfl, ab, DV hl hr, ab, aJ (by simp; omega), aJ (rd (by simp) (by simp)), ab, show [IntKind.u8.wrap 5] ++ kB 5 s = 5 :: kB 5 s from rfl, mO _ rfl]
 rfl
theorem Je {n : List Int} (hl : n.length ≤ 10000000) (hr : np n) : cH n = some (Gl n) := by
 have e0 := pb hl hr 0
 have e1 := pb hl hr 1
 have e2 := pb hl hr 2
 have e3 := pb hl hr 3
 have e4 := pb hl hr 4
 unfold cH
 rw [show at? [(0 : Int), 1, 2, 3, 4] 0 = some 0 from rfl, ab, zO hl hr, ab, aJ (by simp; omega), show at? [(0 : Int), 1, 2, 3, 4] 1 = some 1 from rfl, ab, zO hl hr, ab, aJ (by simp; omega), aJ (by simp), ab,
  show [IntKind.u8.wrap 0] ++ enc 0 n = 0 :: enc 0 n from rfl, show [IntKind.u8.wrap 1] ++ enc 1 n = 1 :: enc 1 n from rfl, mO _ rfl]
 unfold cg
 rw [show at? [(0 : Int), 1, 2, 3, 4] 2 = some 2 from rfl, ab, zO hl hr, ab, aJ (by simp; omega), aJ (rd (by simp) (by simp)), ab, show [IntKind.u8.wrap 2] ++ enc 2 n = 2 :: enc 2 n from rfl, mO _ rfl]
 unfold co
 rw [show at? [(0 : Int), 1, 2, 3, 4] 3 = some 3 from rfl, ab, zO hl hr, ab, aJ (by simp; omega), aJ (rd (rd (by simp) (by simp)) (by simp)), ab, show [IntKind.u8.wrap 3] ++ enc 3 n = 3 :: enc 3 n from rfl, mO _ rfl]
 unfold cn
 rw [show at? [(0 : Int), 1, 2, 3, 4] 4 = some 4 from rfl, ab, zO hl hr, ab, aJ (by simp; omega), aJ (rd (rd (rd (by simp) (by simp)) (by simp)) (by simp)), ab, show [IntKind.u8.wrap 4] ++ enc 4 n = 4 :: enc 4 n from rfl, mO _ rfl]
 rfl
def yz (t : ae) (l : List aa) : List Int := if t.kind = 4 then Fv (l.map (·.s)) else Gl (l.map (·.n))
structure Np (l : List aa) : Prop where
 len : l.length ≤ 10000000
 n : np (l.map (·.n))
 s : xk (l.map (·.s))
theorem hS {l : List aa} {i : Nat} (h : i < l.length) : (l.drop i).map (·.s) = l[i].s :: (l.drop (i + 1)).map (·.s) := by rw [List.drop_eq_getElem_cons h]; rfl
theorem hN {l : List aa} {i : Nat} (h : i < l.length) : (l.drop i).map (·.n) = l[i].n :: (l.drop (i + 1)).map (·.n) := by rw [List.drop_eq_getElem_cons h]; rfl
theorem Md {l : List aa} (hl : l.length ≤ 10000000) : ∀ (m f i : Nat) (b : List ByteArray), i + m = l.length → m < f → b.length + m ≤ 10000000 → fQ l f b (i : Int) = ma (b ++ (l.drop i).map (·.s)) := by
 intro m
 induction m with
 | zero =>
  intro f i b hi hf hb
  obtain ⟨f, rfl⟩ := aL hf
  rw [fQ, bL (by omega), aj, List.drop_of_length_le (by omega)]
  simp
 | succ m ih =>
  intro f i b hi hf hb
  obtain ⟨f, rfl⟩ := aL hf
  have hil : i < l.length := by omega
  rw [fQ, aU hil, aE, aH hil, ab, aJ (by omega), al hil (by omega), ih f (i + 1) _ (by omega) (by omega) (by simp; omega), hS hil]
  simp only [List.append_assoc, List.singleton_append]
theorem M2 {l : List aa} (hl : l.length ≤ 10000000) : ∀ (m f i : Nat) (b : List Int), i + m = l.length → m < f → b.length + m ≤ 10000000 → fR l f b (i : Int) = lW (b ++ (l.drop i).map (·.n)) := by
 intro m
 induction m with
 | zero =>
  intro f i b hi hf hb
  obtain ⟨f, rfl⟩ := aL hf
  rw [fR, bL (by omega), aj, List.drop_of_length_le (by omega)]
  simp
 | succ m ih =>
  intro f i b hi hf hb
  obtain ⟨f, rfl⟩ := aL hf
  have hil : i < l.length := by omega
  rw [fR, aU hil, aE, aH hil, ab, aJ (by omega), al hil (by omega), ih f (i + 1) _ (by omega) (by omega) (by simp; omega), hN hil]
  simp only [List.append_assoc, List.singleton_append]
theorem DL {l : List aa} (h : Np l) (t : ae) : mE t l = some (yz t l) := by
 have hl := h.len
 unfold mE yz
 by_cases h4 : t.kind = 4
 ·have := Md hl l.length aK 0 [] (by omega) (by rw [cI]; omega) (by simp; omega)
  rw [show ((0 : Nat) : Int) = 0 from rfl, List.nil_append, List.drop_zero] at this
  rw [h4, show ((4 : Int) == 4) = true from rfl, aE, if_pos rfl, this]
  unfold ma
  rw [Jb (by simpa using hl) h.s, ab]
 ·have := M2 hl l.length aK 0 [] (by omega) (by rw [cI]; omega) (by simp; omega)
  rw [show ((0 : Nat) : Int) = 0 from rfl, List.nil_append, List.drop_zero] at this
  rw [show (t.kind == 4) = false by simp [h4], aj, if_neg h4, this]
  unfold lW
  rw [Je (by simpa using hl) h.n, ab]
theorem OG {l : List aa} (hl : l.length ≤ 10000000) (t : ae) : ∀ (m f i : Nat) (a : List Int) (b : List ByteArray), i + m = l.length → m < f → a.length + m ≤ 10000000 → b.length + m ≤ 10000000 → ir t l f a b (i : Int) = lv t (a ++ (l.drop i).map (·.n)) (b ++ (l.drop i).map (·.s)) := by
 intro m
 induction m with
 | zero =>
  intro f i a b hi hf ha hb
  obtain ⟨f, rfl⟩ := aL hf
  rw [ir, bL (by omega), aj, List.drop_of_length_le (by omega)]
  simp
 | succ m ih =>
  intro f i a b hi hf ha hb
  obtain ⟨f, rfl⟩ := aL hf
  have hil : i < l.length := by omega
  rw [ir, aU hil, aE, aH hil, ab, aJ (by omega), aJ (by omega), al hil (by omega), ih f (i + 1) _ _ (by omega) (by omega) (by simp; omega) (by simp; omega), hS hil, hN hil]
  simp only [List.append_assoc, List.singleton_append]
theorem Cu {l : List aa} (h : Np l) (t : ae) : pf t l = some (yz t l) := by
 have hl := h.len
 have hB : aK = 1152921504606846974 + 2 := rfl
 have key := OG hl t l.length aK 0 [] [] (by omega) (by rw [cI]; omega) (by simp; omega) (by simp; omega)
 rw [show ((0 : Nat) : Int) = 0 from rfl, List.nil_append, List.nil_append, List.drop_zero] at key
 unfold pf
 rw [key]
 have hs := h.s
 have hn := h.n
 have ls : (l.map (·.s)).length ≤ 10000000 := by simpa using hl
 have ln : (l.map (·.n)).length ≤ 10000000 := by simpa using hl
 unfold yz
 generalize l.map (·.s) = s at *
 generalize l.map (·.n) = n at *
 by_cases h4 : t.kind = 4
 ·have b4 : (t.kind == 4) = true := by simp [h4]
  have e0 := rW ls hs 0
  have e4 := rW ls hs 4
  have e5 := rW ls hs 5
  rw [if_pos h4]
  unfold lv jl
  rw [b4]
  simp only [aE, aj, Bool.not_true, Bool.not_false]
  rw [B9 ls hs (.inl rfl), ab, aJ (by simp; omega)]
  unfold lu kj j7 kf kg jF jE iU
  rw [b4]
  simp only [aE, aj, Bool.not_true, Bool.not_false]
  rw [B9 ls hs (.inr (.inl rfl)), ab, aJ (by simp; omega)]
  unfold kK
  rw [aJ (by simp), show [(0 : Int)] ++ kB 0 s = 0 :: kB 0 s from rfl, show [(4 : Int)] ++ kB 4 s = 4 :: kB 4 s from rfl, mO _ rfl]
  unfold la iQ
  rw [b4]
  simp only [aE, aj, Bool.not_true, Bool.not_false]
  rw [B9 ls hs (.inr (.inr rfl)), ab, aJ (by simp; omega)]
  unfold mN
  rw [aJ (rd (by simp) (by simp)), show [(5 : Int)] ++ kB 5 s = 5 :: kB 5 s from rfl, mO _ rfl]
  rfl
 ·have b4 : (t.kind == 4) = false := by simp [h4]
  have e0 := pb ln hn 0
  have e1 := pb ln hn 1
  have e2 := pb ln hn 2
  have e3 := pb ln hn 3
  have e4 := pb ln hn 4
  rw [if_neg h4]
  unfold lv jl
  rw [b4]
  simp only [aE, aj, Bool.not_true, Bool.not_false]
  rw [hB, rR ln hn (by omega), ab, aJ (by simp; omega)]
  unfold lu kj
  rw [b4]
  simp only [aE, aj, Bool.not_true, Bool.not_false]
  rw [hB, rR ln hn (by omega), ab, aJ (by simp; omega)]
  unfold nM
  rw [aJ (by simp), show [(0 : Int)] ++ enc 0 n = 0 :: enc 0 n from rfl, show [(1 : Int)] ++ enc 1 n = 1 :: enc 1 n from rfl, mO _ rfl]
  unfold j7 kf
  rw [b4]
  simp only [aE, aj, Bool.not_true, Bool.not_false]
  rw [hB, rR ln hn (by omega), ab, aJ (by simp; omega)]
  unfold nW
  rw [aJ (rd (by simp) (by simp)), show [(2 : Int)] ++ enc 2 n = 2 :: enc 2 n from rfl, mO _ rfl]
  unfold kg jF
  rw [b4]
  simp only [aE, aj, Bool.not_true, Bool.not_false]
  rw [hB, rR ln hn (by omega), ab, aJ (by simp; omega)]
  unfold mW
  rw [aJ (rd (rd (by simp) (by simp)) (by simp)), show [(3 : Int)] ++ enc 3 n = 3 :: enc 3 n from rfl, mO _ rfl]
  unfold jE iU
  rw [b4]
  simp only [aE, aj, Bool.not_true, Bool.not_false]
  rw [hB, rR ln hn (by omega), ab, aJ (by simp; omega)]
  unfold kK
  rw [aJ (rd (rd (rd (by simp) (by simp)) (by simp)) (by simp)), show [(4 : Int)] ++ enc 4 n = 4 :: enc 4 n from rfl, mO _ rfl]
  unfold la iQ
  rw [b4]
  simp only [aE, aj, Bool.not_true, Bool.not_false]
  rfl
end Go.Proofs.YtnecojeemmnnaaaGreatDoor
namespace Go.Proofs.YtnecojeemmnnaaaGreatDoor
open Go Go.SX Go.SX.Cal
theorem yD (s : ByteArray) (t : List Int) : (cK s ++ t).take s.size = cK s := by rw [← qb s, List.take_left]
theorem yB (s : ByteArray) (t : List Int) : (cK s ++ t).drop s.size = t := by rw [← qb s, List.drop_left]
theorem FF (s : ByteArray) (t : List Int) : s.size ≤ (cK s ++ t).length := by rw [List.length_append, qb]; omega
theorem Gb (p s : ByteArray) : p.extract 0 (cm p s) ++ s.extract (cm p s) s.size = s := by
 apply ByteArray.ext
 rw [ByteArray.data_append, ByteArray.data_extract, ByteArray.data_extract]
 apply Array.toList_inj.1
 rw [Array.toList_append, Array.toList_extract, Array.toList_extract]
 have h := Do p.data.toList s.data.toList
 show (p.data.toList.extract 0 (cm p s)) ++ (s.data.toList.extract (cm p s) s.data.size) = s.data.toList
 rw [List.extract_eq_take_drop, List.extract_eq_take_drop, List.drop_zero, Nat.sub_zero, List.take_of_length_le (l := s.data.toList.drop (cm p s)) (by simp)]
 unfold cm
 rw [h, List.take_append_drop]
theorem Ln {n : Nat} (hn : n ≤ 1048576) : ∀ (w l : List ByteArray) (t : List Int) (p : ByteArray) (f : Nat), xk w → p.size ≤ 256 → l.length + w.length = n → w.length < f →
  aO (n : Int) f l (tX p w ++ t) false p = some (l ++ w, ⟨t, false⟩)
 | [], l, t, p, f, hr, hp, hl, hf => by
  obtain ⟨f, rfl⟩ := aL hf
  have hl' : l.length = n := hl
  rw [aO, decide_eq_false (by omega), aj]
  unfold cJ eO
  rw [aj, List.append_nil]; rfl
 | s :: w, l, t, p, f, hr, hp, hl, hf => by
  obtain ⟨f, rfl⟩ := aL hf
  have hl' : l.length + (w.length + 1) = n := hl
  have hs := hr s (List.mem_cons_self ..)
  have c1 := Hx p s
  have c2 := zL p s
  have hsz := wx s c2
  have hb := Gb p s
  rw [aO, decide_eq_true (by omega), aE, Bool.not_false]
  unfold cJ
  rw [aE, tX]
  simp only [List.append_assoc]
  rw [xU (by omega), ab]
  simp only
  rw [xU (by omega), ab]
  simp only
  rw [← hsz, yI (FF _ _), ab]
  simp only
  rw [yD, yB, wd, decide_eq_false (by omega), aj, aJ (by omega), Int.toNat_natCast, show (0 : Int).toNat = 0 from rfl, hb]
  rw [aJ (by rw [ByteArray.size_extract]; omega), ab, decide_eq_false (by omega), aj]
  unfold dD
  rw [aJ (by omega), Int.toNat_natCast, show (0 : Int).toNat = 0 from rfl, wd, hb, Ln hn w (l ++ [s]) t s f (fun y hy => hr y (List.mem_cons_of_mem _ hy)) hs (by simp; omega) (by simp only [List.length_cons] at hf; omega)]
  simp
theorem Lf {w : List ByteArray} {t : List Int} (hw : w.length ≤ 1048576) (hr : xk w) : gi (w.length : Int) ⟨tX rE w ++ t, false⟩ = some (w, ⟨t, false⟩) := by
 have := Ln hw w [] t rE aK hr (by show (0 : Nat) ≤ 256; omega) (by simp) (by rw [cI]; omega)
 rw [List.nil_append] at this
 exact this
theorem Id {n : Nat} (hn : n ≤ 1048576) : ∀ (w l : List ByteArray) (t : List Int) (f : Nat), xk w → l.length + w.length = n → w.length < f →
  bn (n : Int) f l (tP w ++ t) false = some (l ++ w, ⟨t, false⟩)
 | [], l, t, f, hr, hl, hf => by
  obtain ⟨f, rfl⟩ := aL hf
  have hl' : l.length = n := hl
  rw [bn, decide_eq_false (by omega), aj]
  unfold dI gm
  rw [aj, List.append_nil]; rfl
 | s :: w, l, t, f, hr, hl, hf => by
  obtain ⟨f, rfl⟩ := aL hf
  have hl' : l.length + (w.length + 1) = n := hl
  have hs := hr s (List.mem_cons_self ..)
  rw [bn, decide_eq_true (by omega), aE, Bool.not_false]
  unfold dI
  rw [aE, uo]
  simp only [List.append_assoc]
  rw [xU (by omega), ab]
  simp only
  rw [yI (FF _ _), ab]
  simp only
  rw [yD, yB, wd, aJ (by omega), Id hn w (l ++ [s]) t f (fun y hy => hr y (List.mem_cons_of_mem _ hy)) (by simp; omega) (by simp only [List.length_cons] at hf; omega)]
  simp
theorem MP {w l : List ByteArray} (c : ac) (hs : ST w) (hw : w.length ≤ 1048576) (hl : l.length ≤ 1048576) (hm : ∀ x ∈ l, x ∈ w) : ∀ (m f i : Nat) (b : List ByteArray), i + m = l.length → m < f → b.length ≤ i →
  bg w (rJ w l) c f b (i : Int) = some (b ++ l.drop i, c) := by
 have hpl : (rJ w l).length = l.length := by simp [rJ]
 intro m
 induction m with
 | zero =>
  intro f i b hi hf hb
  obtain ⟨f, rfl⟩ := aL hf
  rw [bg, bL (by omega), aj, List.drop_of_length_le (by omega), List.append_nil]
  rfl
 | succ m ih =>
  intro f i b hi hf hb
  obtain ⟨f, rfl⟩ := aL hf
  have hil : i < l.length := by omega
  obtain ⟨p1, p2⟩ := FW hs (hm _ (List.getElem_mem hil))
  have he : (rJ w l)[i]'(by omega) = ((pt w l[i] : Nat) : Int) := by simp [rJ]
  rw [bg, aU (by omega), aE, aH (by omega), ab, he, decide_eq_false (by omega), aj, decide_eq_false (by omega)]
  unfold fD
  rw [aj, aH p1, ab, p2, aJ (by omega), al hil (by omega), ih f (i + 1) _ (by omega) (by omega) (by simp; omega), mF hil, List.append_assoc]; rfl
theorem JU {l : List ByteArray} (hl : l.length ≤ 1048576) (hr : xk l) {kind : Int} (hk : kind = 0 ∨ kind = 4 ∨ kind = 5) : gE kind (l.length : Int) ⟨kB kind l, false⟩ = some (l, ⟨[], false⟩) := by
 unfold gE kB
 by_cases h4 : kind = 4
 ·obtain ⟨w1, w2, w3⟩ := wL l
  have hw := yU hr
  have hpl : (rJ (wt l) l).length = l.length := by simp [rJ]
  have hp := Lf (w := wt l) (t := eF (rJ (wt l) l)) (by omega) hw
  have hf := Ig (l := rJ (wt l) l) (by omega) (uy (by omega))
  have hk := MP (w := wt l) (l := l) ⟨[], false⟩ w1 (by omega) hl (fun x hx => (w2 x).2 hx) l.length aK 0 [] (by omega) (by rw [cI]; omega) (by simp)
  rw [hpl] at hf
  rw [h4, show ((4 : Int) == 4) = true from rfl, aE, if_pos rfl, tW, List.append_assoc, xU (by omega), ab]
  simp only
  rw [decide_eq_false (by omega), aj, hp, ab, hf, ab]
  unfold jG
  rw [show ((0 : Nat) : Int) = 0 from rfl, List.nil_append, List.drop_zero] at hk
  rw [hk]; rfl
 rw [show (kind == 4) = false by simp [h4], aj, if_neg h4]
 by_cases h5 : kind = 5
 ·have hp := Lf (w := l) (t := []) hl hr
  rw [List.append_nil] at hp
  rw [h5, show ((5 : Int) == 5) = true from rfl, aE, if_pos rfl, hp]; rfl
 ·have h := Id hl l [] [] aK hr (by simp) (by rw [cI]; omega)
  rw [List.append_nil, List.nil_append] at h
  rw [show (kind == 5) = false by simp [h5], aj, if_neg h5, h]
theorem LU : ∀ (m f : Nat) (b : List Int) (bad : Bool) (a : Int) (s : Nat), 0 ≤ a → s + 7 * m ≥ 64 → s ≤ 100 → m < f → ∀ r, aR f b bad a (s : Int) = some r → 0 ≤ r.1 := by
 intro m
 induction m with
 | zero =>
  intro f b bad a s ha hs h100 hf r h
  obtain ⟨f, rfl⟩ := aL hf
  rw [aR, decide_eq_false (by omega), aj] at h
  unfold fE at h
  obtain rfl := Option.some.inj h
  simp
 | succ m ih =>
  intro f b bad a s ha hs h100 hf r h
  obtain ⟨f, rfl⟩ := aL hf
  rw [aR] at h
  cases hd : decide ((s : Int) < 64) with
  | false =>
   rw [hd, aj] at h
   unfold fE at h
   obtain rfl := Option.some.inj h
   simp
  | true =>
   have h' := of_decide_eq_true hd
   rw [hd, aE] at h
   obtain ⟨r1, h1, h⟩ := lG h
   have key : ∀ x, cq (aR f) a (s : Int) r1 x = some r → 0 ≤ r.1 := by
    intro x hx
    unfold cq at hx
    cases x with
    | true =>
     rw [aE] at hx
     unfold fE at hx
     obtain rfl := Option.some.inj hx
     simp
    | false =>
     rw [aj] at hx
     obtain ⟨y1, e1, hx⟩ := lG hx
     obtain ⟨_, hx⟩ := dB hx
     obtain ⟨y2, e2, hx⟩ := lG hx
     obtain ⟨y3, e3, hx⟩ := lG hx
     have hy3 : 0 ≤ y3 := by
      obtain rfl := Option.some.inj e3
      rw [rA]; omega
     cases hb : decide (r1.1 < (128 : Int)) with
     | true =>
      rw [hb, aE] at hx
      obtain rfl := Option.some.inj hx
      exact hy3
     | false =>
      rw [hb, aj, hJ (x := (s : Int) + 7) (by omega) (by omega), show (s : Int) + 7 = ((s + 7 : Nat) : Int) by omega] at hx
      exact ih f _ _ _ (s + 7) hy3 (by omega) (by omega) (by omega) r hx
   unfold aq at h
   split at h <;> exact key _ h
theorem yK {N : Nat} {c : ac} (hc : CB N c) : nk (bE c) fun r => 0 ≤ r.1 ∧ CB N r.2 := by
 obtain ⟨r, h1, h2⟩ := BA hc
 have h3 := LU 10 aK c.b c.bad 0 0 (by omega) (by omega) (by omega) (by rw [cI]; omega) r h1
 unfold bE
 rw [h1]
 refine p5 (bz (fun _ => tS ⟨by simp, h2⟩) fun h => tS ⟨?_, h2⟩)
 have := of_decide_eq_false h
 simp only
 rw [hJ (by omega) (by omega)]; exact h3
theorem AN {n : Int} {c : ac} (hc : gU c.b) : nk (cx n c) fun r => gU r.1 ∧ gU r.2.b ∧ r.1.length + r.2.b.length ≤ c.b.length := by
 unfold cx dV
 have nil : gU [] := fun e he => by cases he
 refine bz (fun h => tS ⟨nil, hc, by simp⟩) fun h0 => ?_
 refine bz (fun h => tS ⟨nil, hc, by simp⟩) fun h1 => ?_
 refine bz (fun h => tS ⟨nil, hc, by simp⟩) fun h2 => ?_
 have h1' := of_decide_eq_false h1
 have h2' := of_decide_eq_false h2
 refine pp (by omega) (pp (by omega) (tS ⟨u7 (l0 hc _) _, l0 hc _, ?_⟩))
 simp; omega
theorem rS (a : List Int) : (strOfNums a).size = a.length := by
 show (List.map (fun n : Int => UInt8.ofNat n.toNat) a).toArray.size = _
 simp
abbrev LT (N : Nat) (r : List ByteArray × ac) : Prop := CB N r.2 ∧ r.1.length ≤ 1048576 ∧ ∀ s ∈ r.1, s.size ≤ N
theorem xT {N : Nat} {l : List ByteArray} {x : ByteArray} (h : ∀ s ∈ l, s.size ≤ N) (hx : x.size ≤ N) : ∀ s ∈ l ++ [x], s.size ≤ N := by
 intro s hs
 rcases List.mem_append.1 hs with h1 | h1
 ·exact h s h1
 ·rw [List.mem_singleton.1 h1]; exact hx
theorem Mu {N : Nat} (hN : N ≤ 1000000000) {n : Int} (hn : n ≤ 1048576) : ∀ (m f : Nat) (l : List ByteArray) (b : List Int) (bad : Bool) (p : ByteArray), gU b → p.size + b.length ≤ N → (∀ s ∈ l, s.size ≤ N) → l.length ≤ 1048576 → n ≤ l.length + m → m < f →
  nk (aO n f l b bad p) (LT N) := by
 intro m
 induction m with
 | zero =>
  intro f l b bad p hb hp hs hl hm hf
  obtain ⟨f, rfl⟩ := aL hf
  rw [aO, decide_eq_false (by omega), aj]
  unfold cJ eO
  exact tS ⟨⟨hb, by simp only; omega⟩, hl, hs⟩
 | succ m ih =>
  intro f l b bad p hb hp hs hl hm hf
  obtain ⟨f, rfl⟩ := aL hf
  rw [aO]
  unfold cJ eO
  have hfin : LT N (l, ac.mk b bad) := ⟨⟨hb, by simp only; omega⟩, hl, hs⟩
  refine bz (fun h => bz (fun _ => ?_) fun _ => tS hfin) fun _ => tS hfin
  have h' := of_decide_eq_true h
  refine fc (yK (N := b.length) ⟨hb, Nat.le_refl _⟩) fun r1 h1 => fc (yK h1.2) fun r2 h2 => fc (AN h2.2.1) fun r3 h3 => ?_
  have hlen := h2.2.2
  refine bz (fun _ => tS ⟨⟨h3.2.1, by simp only; omega⟩, by simp, fun s hs => by cases hs⟩) fun h4 => ?_
  have h4' := of_decide_eq_false h4
  have hex : (p.extract (0 : Int).toNat r1.1.toNat).size ≤ p.size := by rw [ByteArray.size_extract]; omega
  have hsz : ((p.extract (0 : Int).toNat r1.1.toNat) ++ (strOfNums r3.1)).size ≤ p.size + r3.1.length := by rw [ByteArray.size_append, rS]; omega
  refine pp (by omega) (pp (by rw [rS]; omega) (p5 ?_))
  have key : ∀ z, nk (dD (aO n f) l p r1 r3 z) (LT N) := by
   intro z
   unfold dD
   refine pp (by omega) (ih f _ _ _ _ h3.2.1 (by omega) (xT hs (by omega)) (by simp; omega) (by simp; omega) (by omega))
  exact bz (fun _ => key _) fun _ => key _
theorem Hy {N : Nat} (hN : N ≤ 1000000000) {n : Int} {c : ac} (hn : n ≤ 1048576) (hc : CB N c) : nk (gi n c) (LT N) :=
 Mu hN hn 1048576 aK [] c.b c.bad (ByteArray.mk #[]) hc.1 (by have := hc.2; show 0 + _ ≤ _; omega) (fun s hs => by cases hs) (by simp) (by simp; omega) (by rw [cI]; omega)
theorem KC {N : Nat} {n : Int} (hn : n ≤ 1048576) : ∀ (m f : Nat) (l : List ByteArray) (b : List Int) (bad : Bool), CB N ⟨b, bad⟩ → (∀ s ∈ l, s.size ≤ N) → l.length ≤ 1048576 → n ≤ l.length + m → m < f →
  nk (bn n f l b bad) (LT N) := by
 intro m
 induction m with
 | zero =>
  intro f l b bad hc hs hl hm hf
  obtain ⟨f, rfl⟩ := aL hf
  rw [bn, decide_eq_false (by omega), aj]
  unfold dI gm
  exact tS ⟨hc, hl, hs⟩
 | succ m ih =>
  intro f l b bad hc hs hl hm hf
  obtain ⟨f, rfl⟩ := aL hf
  rw [bn]
  unfold dI gm
  refine bz (fun h => bz (fun _ => ?_) fun _ => tS ⟨hc, hl, hs⟩) fun _ => tS ⟨hc, hl, hs⟩
  have h' := of_decide_eq_true h
  refine fc (yK hc) fun r1 h1 => fc (AN h1.2.1) fun r3 h3 => ?_
  have hlen := h1.2.2
  exact pp (by omega) (ih f _ _ _ ⟨h3.2.1, by simp only; omega⟩ (xT hs (by rw [rS]; omega)) (by simp; omega) (by simp; omega) (by omega))
theorem KX {N : Nat} {w : List ByteArray} {ps : List Int} {c : ac} (hc : CB N c) (hw : ∀ s ∈ w, s.size ≤ N) (hps : ps.length ≤ 1048576) : ∀ (m f i : Nat) (b : List ByteArray), i + m = ps.length → m < f → b.length ≤ i → (∀ s ∈ b, s.size ≤ N) → nk (bg w ps c f b (i : Int)) (LT N) := by
 intro m
 induction m with
 | zero =>
  intro f i b hi hf hb hs
  obtain ⟨f, rfl⟩ := aL hf
  rw [bg, bL (by omega), aj]
  exact tS ⟨hc, by show b.length ≤ _; omega, hs⟩
 | succ m ih =>
  intro f i b hi hf hb hs
  obtain ⟨f, rfl⟩ := aL hf
  have hil : i < ps.length := by omega
  rw [bg, aU hil, aE, aH hil]
  unfold fD
  have hbad : LT N (([] : List ByteArray), ac.mk c.b true) := ⟨hc, by simp, fun s hs => by cases hs⟩
  refine p5 (bz (fun _ => tS hbad) fun h1 => bz (fun _ => tS hbad) fun h2 => ?_)
  have h1' := of_decide_eq_false h1
  have h2' := of_decide_eq_false h2
  have hpi : ps[i].toNat < w.length := by omega
  rw [show ps[i] = ((ps[i].toNat : Nat) : Int) by omega, aH hpi]
  refine p5 (pp (by omega) ?_)
  rw [al hil (by omega)]
  exact ih f (i + 1) _ (by omega) (by omega) (by simp; omega) (xT hs (hw _ (List.getElem_mem hpi)))
theorem JZ {N : Nat} (hN : N ≤ 1000000000) {c : ac} (hc : CB N c) {n : Int} (hn : 0 ≤ n ∧ n ≤ 1048576) (kind : Int) : nk (gE kind n c) (LT N) := by
 unfold gE
 refine bz (fun _ => ?_) fun _ => bz (fun _ => fc (Hy hN hn.2 hc) fun r hr => tS hr) fun _ => KC hn.2 1048576 aK [] c.b c.bad hc (fun s hs => by cases hs) (by simp) (by simp; omega) (by rw [cI]; omega)
 refine fc (yK hc) fun r1 h1 => bz (fun _ => tS ⟨h1.2, by simp, fun s hs => by cases hs⟩) fun h2 => ?_
 have h2' := of_decide_eq_false h2
 refine fc (Hy hN (by omega) h1.2) fun r2 h3 => fc (Ei hn h3.1) fun r3 h4 => ?_
 unfold jG
 have := KX (w := r2.1) (ps := r3.1) (c := r3.2) h4.1 h3.2.2 h4.2 r3.1.length aK 0 [] (by omega) (by rw [cI]; omega) (by simp) (fun s hs => by cases hs)
 rw [show ((0 : Nat) : Int) = 0 from rfl] at this
 exact fc this fun r hr => tS hr
end Go.Proofs.YtnecojeemmnnaaaGreatDoor
namespace Go.Proofs.YtnecojeemmnnaaaGreatDoor
open Go Go.SX Go.SX.Cal
theorem Jp {n : Nat} (hn : n ≤ 1048576) : ∀ (w l : List ByteArray) (t : List Int) (p : ByteArray) (f : Nat), xk w → p.size ≤ 256 → l.length + w.length = n → w.length < f →
  cu (n : Int) f l (tX p w ++ t) false p ((l.length : Nat) : Int) = some (l ++ w, ⟨t, false⟩)
 | [], l, t, p, f, hr, hp, hl, hf => by
  obtain ⟨f, rfl⟩ := aL hf
  have hl' : l.length = n := hl
  rw [cu, decide_eq_false (by omega), aj]
  unfold iO dh
  rw [aj, List.append_nil]; rfl
 | s :: w, l, t, p, f, hr, hp, hl, hf => by
  obtain ⟨f, rfl⟩ := aL hf
  have hl' : l.length + (w.length + 1) = n := hl
  have hs := hr s (List.mem_cons_self ..)
  have c1 := Hx p s
  have c2 := zL p s
  have hsz := wx s c2
  have hb := Gb p s
  rw [cu, decide_eq_true (by omega), aE, Bool.not_false]
  unfold iO
  rw [aE, tX]
  simp only [List.append_assoc]
  rw [sU (by omega), ab]
  simp only
  rw [sU (by omega), ab]
  simp only
  rw [← hsz, zq (FF _ _), ab]
  simp only
  rw [yD, yB, aj, decide_eq_false (by omega)]
  unfold kL
  simp only
  rw [aj, aJ (by omega), Int.toNat_natCast, show (0 : Int).toNat = 0 from rfl, wd, hb]
  rw [aJ (by rw [ByteArray.size_extract]; omega), aJ (by omega), al (n := n) (by omega) (by omega)]
  have := Jp hn w (l ++ [s]) t s f (fun y hy => hr y (List.mem_cons_of_mem _ hy)) hs (by simp; omega) (by simp only [List.length_cons] at hf; omega)
  rw [List.length_append, List.length_singleton] at this
  rw [this]
  simp
theorem Gm {n : Nat} (hn : n ≤ 1048576) : ∀ (w l : List ByteArray) (t : List Int) (f : Nat), xk w → l.length + w.length = n → w.length < f →
  cL (n : Int) f l (tP w ++ t) false ((l.length : Nat) : Int) = some (l ++ w, ⟨t, false⟩)
 | [], l, t, f, hr, hl, hf => by
  obtain ⟨f, rfl⟩ := aL hf
  have hl' : l.length = n := hl
  rw [cL, decide_eq_false (by omega), aj]
  unfold iP dh
  rw [aj, List.append_nil]; rfl
 | s :: w, l, t, f, hr, hl, hf => by
  obtain ⟨f, rfl⟩ := aL hf
  have hl' : l.length + (w.length + 1) = n := hl
  have hs := hr s (List.mem_cons_self ..)
  rw [cL, decide_eq_true (by omega), aE, Bool.not_false]
  unfold iP
  rw [aE, uo]
  simp only [List.append_assoc]
  rw [sU (by omega), ab]
  simp only
  rw [zq (FF _ _), ab]
  simp only
  rw [yD, yB, wd, aJ (by omega), al (n := n) (by omega) (by omega)]
  have := Gm hn w (l ++ [s]) t f (fun y hy => hr y (List.mem_cons_of_mem _ hy)) (by simp; omega) (by simp only [List.length_cons] at hf; omega)
  rw [List.length_append, List.length_singleton] at this
  rw [this]
  simp
theorem Kl {w l : List ByteArray} {r7 : List ByteArray × ar} {r8 : List Int × ar} (h7 : r7.1 = w) (h8 : r8.1 = rJ w l) (hs : ST w) (hw : w.length ≤ 1048576) (hl : l.length ≤ 1048576) (hm : ∀ x ∈ l, x ∈ w) : ∀ (m f i : Nat) (b : List ByteArray), i + m = l.length → m < f → b.length ≤ i →
  cN r7 r8 f b (i : Int) = some (b ++ l.drop i, r8.2) := by
 have hpl : (rJ w l).length = l.length := by simp [rJ]
 intro m
 induction m with
 | zero =>
  intro f i b hi hf hb
  obtain ⟨f, rfl⟩ := aL hf
  rw [cN, h8, bL (by omega), aj, List.drop_of_length_le (by omega), List.append_nil]
  rfl
 | succ m ih =>
  intro f i b hi hf hb
  obtain ⟨f, rfl⟩ := aL hf
  have hil : i < l.length := by omega
  obtain ⟨p1, p2⟩ := FW hs (hm _ (List.getElem_mem hil))
  have he : (rJ w l)[i]'(by omega) = ((pt w l[i] : Nat) : Int) := by simp [rJ]
  rw [cN, h8, h7, aU (by omega), aE, aH (by omega), ab, he, decide_eq_false (by omega), aj, decide_eq_false (by omega)]
  unfold kV
  rw [aj, h7, aH p1, ab, p2, aJ (by omega), al hil (by omega), ih f (i + 1) _ (by omega) (by omega) (by simp; omega), mF hil, List.append_assoc]; rfl
theorem HZ {w : List ByteArray} {t : List Int} (hw : w.length ≤ 1048576) (hr : xk w) (k : Nat) : dE (k + 1) 5 (w.length : Int) ⟨tX rE w ++ t, false⟩ = some (w, ⟨t, false⟩) := by
 have := Jp hw w [] t rE aK hr (by show (0 : Nat) ≤ 256; omega) (by simp) (by rw [cI]; omega)
 rw [List.nil_append] at this
 rw [dE, show ((5 : Int) == 0) = false from rfl, aj, show ((5 : Int) == 5) = true from rfl, aE]
 exact this
theorem J1 {l : List ByteArray} (hl : l.length ≤ 1048576) (hr : xk l) {kind : Int} (hk : kind = 0 ∨ kind = 4 ∨ kind = 5) (k : Nat) : dE (k + 2) kind (l.length : Int) ⟨kB kind l, false⟩ = some (l, ⟨[], false⟩) := by
 rcases hk with rfl | rfl | rfl
 ·have h := Gm hl l [] [] aK hr (by simp) (by rw [cI]; omega)
  rw [List.append_nil, List.nil_append] at h
  rw [dE, show ((0 : Int) == 0) = true from rfl, aE]
  unfold kB
  rw [if_neg (by omega), if_neg (by omega)]
  exact h
 ·obtain ⟨w1, w2, w3⟩ := wL l
  have hw := yU hr
  have hpl : (rJ (wt l) l).length = l.length := by simp [rJ]
  have hp := HZ (w := wt l) (t := eF (rJ (wt l) l)) (by omega) hw k
  have hf := Eb (l := rJ (wt l) l) (by omega) (uy (by omega))
  rw [hpl] at hf
  rw [dE, show ((4 : Int) == 0) = false from rfl, aj, show ((4 : Int) == 5) = false from rfl, aj, show ((4 : Int) == 4) = true from rfl, aE]
  unfold kB
  rw [if_pos rfl, tW, List.append_assoc, sU (by omega), ab]
  simp only
  rw [decide_eq_false (by omega), aj, hp, ab, hf, ab]
  have hk := Kl (w := wt l) (l := l) (r7 := (wt l, ⟨eF (rJ (wt l) l), false⟩)) (r8 := (rJ (wt l) l, ⟨[], false⟩)) rfl rfl w1 (by omega) hl (fun x hx => (w2 x).2 hx) l.length aK 0 [] (by omega) (by rw [cI]; omega) (by simp)
  rw [show ((0 : Nat) : Int) = 0 from rfl, List.nil_append, List.drop_zero] at hk
  exact hk
 ·have hp := HZ (w := l) (t := []) hl hr (k + 1)
  rw [List.append_nil] at hp
  unfold kB
  rw [if_neg (by omega), if_pos rfl]
  exact hp
theorem Cb (u : Int) {c : Int} (hc : 0 ≤ c ∧ c ≤ 255) (hu : 0 ≤ u ∧ u ≤ 72057594037927936) : ∃ d : Int, 0 ≤ d ∧ d ≤ 127 ∧ IntKind.i64.wrap (u * IntKind.i64.wrap (c.tmod 128)) = u * d := by
 refine ⟨c % 128, by omega, by omega, ?_⟩
 rw [Int.tmod_eq_emod_of_nonneg (by omega), hJ (x := c % 128) (by omega) (by omega)]
 have h1 : u * (c % 128) ≤ u * 127 := Int.mul_le_mul_of_nonneg_left (by omega) hu.1
 have h2 : 0 ≤ u * (c % 128) := Int.mul_nonneg hu.1 (by omega)
 rw [hJ (by omega) (by omega)]
abbrev NB (N : Nat) (r : Int × ar) : Prop := 0 ≤ r.1 ∧ SB N r.2
theorem wu {N : Nat} {c : ar} (hc : SB N c) : nk (bT c) (NB N) := by
 unfold bT gB gr gC gA gx gv gw gu gy
 refine fc (ki hc) fun r1 h1 => ?_
 obtain ⟨d1, a1, b1, e1⟩ := Cb 1 h1.1 (by omega)
 rw [e1]
 refine p5 (bz (fun _ => ?_) fun _ => ?_)
 ·have k : 0 ≤ IntKind.i64.wrap (0 + 1 * d1) := by simp (disch := omega) only [hJ]; omega
  exact bz (fun _ => tS ⟨k, h1.2⟩) fun _ => tS ⟨k, h1.2⟩
 refine fc (ki h1.2) fun r2 h2 => ?_
 obtain ⟨d2, a2, b2, e2⟩ := Cb 128 h2.1 (by omega)
 rw [e2]
 refine p5 (bz (fun _ => ?_) fun _ => ?_)
 ·have k : 0 ≤ IntKind.i64.wrap (IntKind.i64.wrap (0 + 1 * d1) + 128 * d2) := by simp (disch := omega) only [hJ]; omega
  exact bz (fun _ => tS ⟨k, h2.2⟩) fun _ => tS ⟨k, h2.2⟩
 refine fc (ki h2.2) fun r3 h3 => ?_
 obtain ⟨d3, a3, b3, e3⟩ := Cb 16384 h3.1 (by omega)
 rw [e3]
 refine p5 ?_
 have y4 : IntKind.i64.wrap (IntKind.i64.wrap (IntKind.i64.wrap (0 + 1 * d1) + 128 * d2) + 16384 * d3) = d1 + 128 * d2 + 16384 * d3 := by simp (disch := omega) only [hJ]; omega
 rw [y4]
 refine p5 (bz (fun _ => ?_) fun _ => ?_)
 ·exact bz (fun _ => tS ⟨by simp only; omega, h3.2⟩) fun _ => tS ⟨by simp only; omega, h3.2⟩
 refine fc (ki h3.2) fun r4 h4 => ?_
 obtain ⟨d4, a4, b4, e4⟩ := Cb 2097152 h4.1 (by omega)
 rw [e4]
 refine p5 (bz (fun _ => ?_) fun _ => ?_)
 ·have k : 0 ≤ IntKind.i64.wrap (d1 + 128 * d2 + 16384 * d3 + 2097152 * d4) := by simp (disch := omega) only [hJ]; omega
  exact bz (fun _ => tS ⟨k, h4.2⟩) fun _ => tS ⟨k, h4.2⟩
 refine fc (ki h4.2) fun r5 h5 => ?_
 obtain ⟨d5, a5, b5, e5⟩ := Cb 268435456 h5.1 (by omega)
 rw [e5]
 refine p5 (bz (fun _ => ?_) fun _ => ?_)
 ·have k : 0 ≤ IntKind.i64.wrap (IntKind.i64.wrap (d1 + 128 * d2 + 16384 * d3 + 2097152 * d4) + 268435456 * d5) := by simp (disch := omega) only [hJ]; omega
  exact bz (fun _ => tS ⟨k, h5.2⟩) fun _ => tS ⟨k, h5.2⟩
 refine fc (ki h5.2) fun r6 h6 => ?_
 obtain ⟨d6, a6, b6, e6⟩ := Cb 34359738368 h6.1 (by omega)
 rw [e6]
 refine p5 ?_
 have y8 : IntKind.i64.wrap (IntKind.i64.wrap (IntKind.i64.wrap (d1 + 128 * d2 + 16384 * d3 + 2097152 * d4) + 268435456 * d5) + 34359738368 * d6) = d1 + 128 * d2 + 16384 * d3 + 2097152 * d4 + 268435456 * d5 + 34359738368 * d6 := by simp (disch := omega) only [hJ]
 rw [y8]
 refine p5 (bz (fun _ => ?_) fun _ => ?_)
 ·exact bz (fun _ => tS ⟨by simp only; omega, h6.2⟩) fun _ => tS ⟨by simp only; omega, h6.2⟩
 refine fc (ki h6.2) fun r7 h7 => ?_
 obtain ⟨d7, a7, b7, e7⟩ := Cb 4398046511104 h7.1 (by omega)
 rw [e7]
 generalize hq : d1 + 128 * d2 + 16384 * d3 + 2097152 * d4 + 268435456 * d5 + 34359738368 * d6 = q
 have hq0 : 0 ≤ q := by omega
 have hq1 : q ≤ 4398046511103 := by omega
 clear hq y8 y4
 refine p5 (bz (fun _ => ?_) fun _ => ?_)
 ·have k : 0 ≤ IntKind.i64.wrap (q + 4398046511104 * d7) := by simp (disch := omega) only [hJ]; omega
  exact bz (fun _ => tS ⟨k, h7.2⟩) fun _ => tS ⟨k, h7.2⟩
 refine fc (ki h7.2) fun r8 h8 => ?_
 obtain ⟨d8, a8, b8, e8⟩ := Cb 562949953421312 h8.1 (by omega)
 rw [e8]
 refine p5 (bz (fun _ => ?_) fun _ => ?_)
 ·have k : 0 ≤ IntKind.i64.wrap (IntKind.i64.wrap (q + 4398046511104 * d7) + 562949953421312 * d8) := by simp (disch := omega) only [hJ]; omega
  exact bz (fun _ => tS ⟨k, h8.2⟩) fun _ => tS ⟨k, h8.2⟩
 refine fc (ki h8.2) fun r9 h9 => ?_
 obtain ⟨d9, a9, b9, e9⟩ := Cb 72057594037927936 h9.1 (by omega)
 rw [e9]
 refine p5 (p5 (bz (fun _ => ?_) fun _ => tS ⟨by simp, h9.2⟩))
 have k : 0 ≤ IntKind.i64.wrap (IntKind.i64.wrap (IntKind.i64.wrap (q + 4398046511104 * d7) + 562949953421312 * d8) + 72057594037927936 * d9) := by simp (disch := omega) only [hJ]; omega
 exact bz (fun _ => tS ⟨k, h9.2⟩) fun _ => tS ⟨k, h9.2⟩
theorem zw {n : Int} {c : ar} (hc : gU c.b) : nk (fg n c) fun r => gU r.1 ∧ gU r.2.b ∧ r.1.length + r.2.b.length ≤ c.b.length := by
 unfold fg gk
 have nil : gU [] := fun e he => by cases he
 refine bz (fun h => tS ⟨nil, hc, by simp⟩) fun h0 => ?_
 refine bz (fun h => tS ⟨nil, hc, by simp⟩) fun h1 => ?_
 refine bz (fun h => tS ⟨nil, hc, by simp⟩) fun h2 => ?_
 have h1' := of_decide_eq_false h1
 have h2' := of_decide_eq_false h2
 refine pp (by omega) (pp (by omega) (tS ⟨u7 (l0 hc _) _, l0 hc _, ?_⟩))
 simp; omega
abbrev RT (N : Nat) (r : List ByteArray × ar) : Prop := SB N r.2 ∧ r.1.length ≤ 1048576 ∧ ∀ s ∈ r.1, s.size ≤ N
theorem KU {N : Nat} (hN : N ≤ 1000000000) {n : Int} (hn : n ≤ 1048576) : ∀ (m f : Nat) (l : List ByteArray) (b : List Int) (bad : Bool) (p : ByteArray), gU b → p.size + b.length ≤ N → (∀ s ∈ l, s.size ≤ N) → l.length ≤ 1048576 → n ≤ l.length + m → m < f →
  nk (cu n f l b bad p ((l.length : Nat) : Int)) (RT N) := by
 intro m
 induction m with
 | zero =>
  intro f l b bad p hb hp hs hl hm hf
  obtain ⟨f, rfl⟩ := aL hf
  rw [cu, decide_eq_false (by omega), aj]
  unfold iO dh
  exact tS ⟨⟨hb, by simp only; omega⟩, hl, hs⟩
 | succ m ih =>
  intro f l b bad p hb hp hs hl hm hf
  obtain ⟨f, rfl⟩ := aL hf
  rw [cu]
  unfold iO dh
  have hfin : RT N (l, ar.mk b bad) := ⟨⟨hb, by simp only; omega⟩, hl, hs⟩
  refine bz (fun h => bz (fun _ => ?_) fun _ => tS hfin) fun _ => tS hfin
  have h' := of_decide_eq_true h
  refine fc (wu (N := b.length) ⟨hb, Nat.le_refl _⟩) fun r1 h1 => fc (wu h1.2) fun r2 h2 => fc (zw h2.2.1) fun r3 h3 => ?_
  have hlen := h2.2.2
  unfold kL
  have hbad : RT N (([] : List ByteArray), ar.mk r3.2.b true) := ⟨⟨h3.2.1, by simp only; omega⟩, by simp, fun s hs => by cases hs⟩
  refine bz (fun _ => tS hbad) fun _ => bz (fun _ => tS hbad) fun h4 => ?_
  have h4' := of_decide_eq_false h4
  have hex : (p.extract (0 : Int).toNat r1.1.toNat).size ≤ p.size := by rw [ByteArray.size_extract]; omega
  have hsz : ((p.extract (0 : Int).toNat r1.1.toNat) ++ (strOfNums r3.1)).size ≤ p.size + r3.1.length := by rw [ByteArray.size_append, rS]; omega
  refine pp (by omega) (pp (by rw [rS]; omega) (pp (by omega) ?_))
  have := ih f (l ++ [((p.extract (0 : Int).toNat r1.1.toNat) ++ (strOfNums r3.1))]) r3.2.b r3.2.bad ((p.extract (0 : Int).toNat r1.1.toNat) ++ (strOfNums r3.1)) h3.2.1 (by omega) (xT hs (by omega)) (by simp; omega) (by simp; omega) (by omega)
  rw [List.length_append, List.length_singleton] at this
  rw [hJ (x := ((l.length : Nat) : Int) + 1) (by omega) (by omega)]
  exact this
theorem Fu {N : Nat} (hN : N ≤ 1000000000) {n : Int} {c : ar} (hn : n ≤ 1048576) (hc : SB N c) (k : Nat) : nk (dE (k + 1) 5 n c) (RT N) := by
 rw [dE, show ((5 : Int) == 0) = false from rfl, aj, show ((5 : Int) == 5) = true from rfl, aE]
 exact KU hN hn 1048576 aK [] c.b c.bad (ByteArray.mk #[]) hc.1 (by have := hc.2; show 0 + _ ≤ _; omega) (fun s hs => by cases hs) (by simp) (by simp; omega) (by rw [cI]; omega)
theorem Im {N : Nat} {n : Int} (hn : n ≤ 1048576) : ∀ (m f : Nat) (l : List ByteArray) (b : List Int) (bad : Bool), SB N ⟨b, bad⟩ → (∀ s ∈ l, s.size ≤ N) → l.length ≤ 1048576 → n ≤ l.length + m → m < f →
  nk (cL n f l b bad ((l.length : Nat) : Int)) (RT N) := by
 intro m
 induction m with
 | zero =>
  intro f l b bad hc hs hl hm hf
  obtain ⟨f, rfl⟩ := aL hf
  rw [cL, decide_eq_false (by omega), aj]
  unfold iP dh
  exact tS ⟨hc, hl, hs⟩
 | succ m ih =>
  intro f l b bad hc hs hl hm hf
  obtain ⟨f, rfl⟩ := aL hf
  rw [cL]
  unfold iP dh
  refine bz (fun h => bz (fun _ => ?_) fun _ => tS ⟨hc, hl, hs⟩) fun _ => tS ⟨hc, hl, hs⟩
  have h' := of_decide_eq_true h
  refine fc (wu hc) fun r1 h1 => fc (zw h1.2.1) fun r3 h3 => ?_
  have hlen := h1.2.2
  refine pp (by omega) ?_
  have := ih f (l ++ [strOfNums r3.1]) r3.2.b r3.2.bad ⟨h3.2.1, by simp only; omega⟩ (xT hs (by rw [rS]; omega)) (by simp; omega) (by simp; omega) (by omega)
  rw [List.length_append, List.length_singleton] at this
  rw [hJ (x := ((l.length : Nat) : Int) + 1) (by omega) (by omega)]
  exact this
theorem HF {N : Nat} {r7 : List ByteArray × ar} {r8 : List Int × ar} (hc : SB N r8.2) (hw : ∀ s ∈ r7.1, s.size ≤ N) (hps : r8.1.length ≤ 1048576) : ∀ (m f i : Nat) (b : List ByteArray), i + m = r8.1.length → m < f → b.length ≤ i → (∀ s ∈ b, s.size ≤ N) → nk (cN r7 r8 f b (i : Int)) (RT N) := by
 intro m
 induction m with
 | zero =>
  intro f i b hi hf hb hs
  obtain ⟨f, rfl⟩ := aL hf
  rw [cN, bL (by omega), aj]
  exact tS ⟨hc, by show b.length ≤ _; omega, hs⟩
 | succ m ih =>
  intro f i b hi hf hb hs
  obtain ⟨f, rfl⟩ := aL hf
  have hil : i < r8.1.length := by omega
  rw [cN, aU hil, aE, aH hil]
  unfold kV
  have hbad : RT N (([] : List ByteArray), ar.mk r8.2.b true) := ⟨hc, by simp, fun s hs => by cases hs⟩
  refine p5 (bz (fun _ => tS hbad) fun h1 => bz (fun _ => tS hbad) fun h2 => ?_)
  have h1' := of_decide_eq_false h1
  have h2' := of_decide_eq_false h2
  have hpi : r8.1[i].toNat < r7.1.length := by omega
  rw [show r8.1[i] = ((r8.1[i].toNat : Nat) : Int) by omega, aH hpi]
  refine p5 (pp (by omega) ?_)
  rw [al hil (by omega)]
  exact ih f (i + 1) _ (by omega) (by omega) (by simp; omega) (xT hs (hw _ (List.getElem_mem hpi)))
theorem KQ {N : Nat} (hN : N ≤ 1000000000) {c : ar} (hc : SB N c) {n : Int} (hn : 0 ≤ n ∧ n ≤ 1048576) (kind : Int) (k : Nat) : nk (dE (k + 2) kind n c) (RT N) := by
 rw [dE]
 refine bz (fun _ => ?_) fun _ => bz (fun _ => ?_) fun _ => bz (fun _ => ?_) fun _ => ?_
 ·exact Im hn.2 1048576 aK [] c.b c.bad hc (fun s hs => by cases hs) (by simp) (by simp; omega) (by rw [cI]; omega)
 ·have := Fu hN hn.2 hc (k + 1)
  rw [dE, show ((5 : Int) == 0) = false from rfl, aj, show ((5 : Int) == 5) = true from rfl, aE] at this
  exact this
 ·refine fc (wu hc) fun r1 h1 => bz (fun _ => tS ⟨h1.2, by simp, fun s hs => by cases hs⟩) fun h2 => ?_
  have h2' := of_decide_eq_false h2
  refine fc (Fu hN (by omega) h1.2 k) fun r2 h3 => fc (BK hn h3.1) fun r3 h4 => ?_
  have := HF (r7 := r2) (r8 := r3) h4.1 h3.2.2 h4.2 r3.1.length aK 0 [] (by omega) (by rw [cI]; omega) (by simp) (fun s hs => by cases hs)
  rw [show ((0 : Nat) : Int) = 0 from rfl] at this
  exact this
 ·unfold dh
  exact tS ⟨hc, by simp, fun s hs => by cases hs⟩
end Go.Proofs.YtnecojeemmnnaaaGreatDoor
namespace Go.Proofs.YtnecojeemmnnaaaGreatDoor.Ck
open Go Go.SX Go.SX.Cal
theorem aS {β : Type} (x y : Option β) : aq true x y = x := rfl
theorem aF {β : Type} (x y : Option β) : aq false x y = y := rfl
theorem bI {β : Type} (b : Bool) (x y : Option β) : aq b x y = if b = true then x else y := by cases b <;> rfl
theorem bP : aK = 1152921504606846976 := rfl
def first (P : Nat → Bool) (i n : Nat) : Option Nat := (List.range' i (n - i)).find? P
theorem m7 {P : Nat → Bool} {i n : Nat} (h : i < n) : first P i n = if P i = true then some i else first P (i + 1) n := by
 unfold first
 rw [show n - i = (n - (i + 1)) + 1 by omega, List.range'_succ, List.find?_cons]
 cases hp : P i <;> simp [hp]
theorem ny {P : Nat → Bool} {n : Nat} : first P n n = none := by simp [first]
theorem oC {P : Nat → Bool} {i n : Nat} : first P i n = none ↔ ∀ j, i ≤ j → j < n → P j = false := by
 unfold first
 rw [List.find?_eq_none]
 constructor
 ·intro h j h1 h2
  have := h j (by rw [List.mem_range'_1]; omega)
  simpa using this
 ·intro h j hj
  rw [List.mem_range'_1] at hj
  have := h j (by omega) (by omega)
  simp [this]
theorem nf {β : Type} {f : Nat → Nat → Option β} {n : Nat} {P : Nat → Bool} {A : Nat → Option β} {B : Option β} (hstep : ∀ k i, i < n → f (k + 1) i = if P i = true then A i else f k (i + 1)) (hend : ∀ k, f (k + 1) n = B) :
  ∀ k i, i ≤ n → n - i < k → f k i = (first P i n).elim B A := by
 intro k
 induction k with
 | zero => intro i _ h; omega
 | succ k ih =>
  intro i hi hk
  by_cases h : i = n
  ·subst h
   rw [hend, ny]; rfl
  ·rw [hstep k i (by omega), m7 (by omega)]
   by_cases hp : P i = true
   ·simp [hp]
   ·simp only [hp, if_false]
    exact ih (i + 1) (by omega) (by omega)
def mS (s : ByteArray) (i : Nat) : Nat := (s.data.toList.getD i 0).toNat
theorem yN (s : ByteArray) (i : Nat) (h : i < s.size) : (s.get! i).toNat = mS s i := by
 unfold mS
 have h' : i < s.data.size := h
 have : s.get! i = s.data.toList.getD i 0 := by
  simp only [ByteArray.get!, List.getD, Array.getElem?_toList]
  rw [getElem!_pos s.data i h', Array.getElem?_eq_getElem h']; rfl
 rw [this]
def rh (b : Nat) : Bool := decide (97 ≤ b) && decide (b ≤ 122)
def other (b : Nat) : Bool := b == 95 || (decide (48 ≤ b) && decide (b ≤ 57))
def qk (b : Nat) : Bool := rh b || other b
theorem IJ (n : Nat) : pN (Int.ofNat n) = some (!qk n) := by
 unfold pN fo
 simp only [bI, decide_eq_true_eq, Int.ofNat_eq_natCast]
 repeat' split
 all_goals (rw [Option.some.injEq, Bool.eq_iff_iff]; simp [qk, rh, other]; omega)
theorem A3 (s : ByteArray) (i : Nat) (h : i < s.size) (hb : mS s i < 128) : Utf8.decode s i = (mS s i, 1) := by
 have e := yN s i h
 unfold Utf8.decode
 simp [e, hb]
theorem A2 (s : ByteArray) (i : Nat) (h : i < s.size) (hb : ¬ mS s i < 128) : 128 ≤ (Utf8.decode s i).1 := by
 have e := yN s i h
 unfold Utf8.decode
 simp only [Nat.add_zero, e, if_neg hb, Utf8.runeError]
 repeat' split
 all_goals simp_all
 all_goals omega
def bad (s : ByteArray) (i : Nat) : Bool := !qk (mS s i)
theorem A5 (s : ByteArray) : ∀ k i, i ≤ s.size → s.size - i < k → ∃ r, bt s true k i = some r ∧ (decide (0 ≤ r) = (first (bad s) i s.size).isSome) := by
 intro k
 induction k with
 | zero => intro i _ h; omega
 | succ k ih =>
  intro i hi hk
  rw [bt]
  by_cases h : i = s.size
  ·subst h
   rw [ny]
   simp only [Nat.lt_irrefl, decide_false, aF]
   exact ⟨-1, rfl, rfl⟩
  ·have hlt : i < s.size := by omega
   simp only [hlt, decide_true, aS, IJ, fu]
   rw [m7 hlt]
   by_cases hb : mS s i < 128
   ·rw [A3 s i hlt hb]
    simp only [bad]
    by_cases hg : qk (mS s i) = true
    ·simp only [hg, Bool.not_true, bI]
     obtain ⟨r, h1, h2⟩ := ih (i + 1) (by omega) (by omega)
     exact ⟨r, by simpa using h1, by simpa [bad] using h2⟩
    ·simp only [hg, Bool.not_false, bI]
     exact ⟨_, rfl, by simp⟩
   ·have h1 := A2 s i hlt hb
    have g1 : qk (Utf8.decode s i).1 = false := by
     generalize (Utf8.decode s i).1 = x at h1
     simp [qk, rh, other]; omega
    have g2 : bad s i = true := by
     simp [bad, qk, rh, other]; omega
    simp only [g1, g2, Bool.not_false, bI]
    exact ⟨_, rfl, by simp⟩
def qg (s : ByteArray) : Bool := decide (1 ≤ s.size) && decide (s.size ≤ 24) && rh (mS s 0) && (first (bad s) 0 s.size).isNone
theorem p7 (s : ByteArray) : (s.toList == (ByteArray.mk #[]).toList) = decide (s.size = 0) := by
 rw [ByteArray.toList_eq, ByteArray.toList_eq, Bool.eq_iff_iff]
 show (s.data.toList == []) = true ↔ decide (s.data.size = 0) = true
 rw [← Array.length_toList]
 cases s.data.toList <;> simp
theorem NL (s : ByteArray) (hs : s.size < 1000000000) : sS s = some (qg s) := by
 obtain ⟨r, h1, h2⟩ := A5 s aK 0 (Nat.zero_le _) (by rw [bP]; omega)
 unfold sS lc eT fY fZ
 rw [h1, p7]
 simp only [fu, h2, bI]
 by_cases z0 : s.size = 0
 ·simp [z0, qg]
 ·by_cases z1 : 24 < s.size
  ·have : ¬ s.size ≤ 24 := by omega
   simp [z0, z1, qg, this, show (24 : Int) < (s.size : Int) by omega]
  ·have hz : ¬ (24 : Int) < (s.size : Int) := by omega
   have hb : ((s.data.toList.getD (0 : Int).toNat 0).toNat : Int) = (mS s 0 : Int) := rfl
   simp only [z0, decide_false, hz, Bool.false_eq_true, if_false, hb]
   rw [ig (by omega), ig (by omega)]
   simp only [decide_eq_true_eq]
   have : s.size ≤ 24 := by omega
   by_cases q1 : mS s 0 < 97
   ·have : ¬ 97 ≤ mS s 0 := by omega
    simp [show (mS s 0 : Int) < 97 by omega, qg, rh, this]
   ·by_cases q2 : 122 < mS s 0
    ·have : ¬ mS s 0 ≤ 122 := by omega
     simp [show ¬ (mS s 0 : Int) < 97 by omega, show (122 : Int) < (mS s 0 : Int) by omega, qg, rh, this]
    ·simp [show ¬ (mS s 0 : Int) < 97 by omega, show ¬ (122 : Int) < (mS s 0 : Int) by omega, qg, rh, show 1 ≤ s.size by omega, this, show 97 ≤ mS s 0 by omega, show mS s 0 ≤ 122 by omega]
def At (s : ByteArray) (i : Nat) : Bool := !rh (mS s i) && (i == 0 || !other (mS s i))
theorem EH (s : ByteArray) (hs : s.size < 1000000000) (k i : Nat) (hi : i < s.size) : de s (k + 1) (i : Int) = if At s i = true then some false else de s k ((i + 1 : Nat) : Int) := by
 rw [de, ← bI]
 have hb : ((s.data.toList.getD (i : Int).toNat 0).toNat : Int) = (mS s i : Int) := rfl
 have hw : IntKind.i64.wrap ((i : Int) + 1) = ((i + 1 : Nat) : Int) := by rw [hJ (by omega) (by omega)]; omega
 have hg : 0 ≤ (i : Int) ∧ (i : Int) < (s.size : Int) := by omega
 rw [show decide ((i : Int) < (s.size : Int)) = true by simp [hg.2], aS]
 simp only [pQ, nF, nY, hb, hw, fu, ig hg]
 have e1 : ((mS s i : Int) == 95) = (mS s i == 95) := by rw [Bool.eq_iff_iff]; simp; omega
 have e2 : (decide ((97 : Int) ≤ mS s i)) = decide (97 ≤ mS s i) := by rw [Bool.eq_iff_iff]; simp; omega
 have e3 : (decide ((mS s i : Int) ≤ 122)) = decide (mS s i ≤ 122) := by rw [Bool.eq_iff_iff]; simp; omega
 have e4 : (decide ((48 : Int) ≤ mS s i)) = decide (48 ≤ mS s i) := by rw [Bool.eq_iff_iff]; simp; omega
 have e5 : (decide ((mS s i : Int) ≤ 57)) = decide (mS s i ≤ 57) := by rw [Bool.eq_iff_iff]; simp; omega
 have e6 : ((i : Int) == 0) = (i == 0) := by rw [Bool.eq_iff_iff]; simp
 simp only [e1, e2, e3, e4, e5, e6, At, rh, other]
 generalize hq : de s k ((i + 1 : Nat) : Int) = q
 generalize (mS s i == 95) = b1
 generalize decide (97 ≤ mS s i) = b2
 generalize decide (mS s i ≤ 122) = b3
 generalize decide (48 ≤ mS s i) = b4
 generalize decide (mS s i ≤ 57) = b5
 generalize (i == 0) = b6
 cases b1 <;> cases b2 <;> cases b3 <;> cases b4 <;> cases b5 <;> cases b6 <;> rfl
theorem Oz (s : ByteArray) (hs : s.size < 1000000000) : u3 s = some (qg s) := by
 have hl := nf (f := fun k i => de s k (i : Int)) (n := s.size) (P := At s) (A := fun _ => some false) (B := some true) (fun k i hi => EH s hs k i hi)
  (fun k => by rw [de]; simp only [Int.lt_irrefl, decide_false, aF]; rfl) aK 0 (Nat.zero_le _) (by rw [bP]; omega)
 have hl : de s aK (0 : Int) = _ := hl
 unfold u3 pM
 rw [hl]
 simp only [bI]
 by_cases z0 : s.size = 0
 ·simp [z0, qg]
 ·by_cases z1 : 24 < s.size
  ·have : ¬ s.size ≤ 24 := by omega
   simp [z0, z1, qg, this, show (24 : Int) < (s.size : Int) by omega]
  ·have hz : ¬ (24 : Int) < (s.size : Int) := by omega
   have hz2 : ¬ (s.size : Int) < 1 := by omega
   simp only [hz, hz2, decide_false, Bool.false_eq_true, if_false]
   have e : (first (At s) 0 s.size).isNone = (rh (mS s 0) && (first (bad s) 0 s.size).isNone) := by
    rw [Bool.eq_iff_iff, Bool.and_eq_true, Option.isNone_iff_eq_none, Option.isNone_iff_eq_none, oC, oC]
    constructor
    ·intro h
     have h0 := h 0 (Nat.le_refl _) (by omega)
     simp only [At, beq_self_eq_true, Bool.true_or, Bool.and_true] at h0
     have h0' : rh (mS s 0) = true := by simpa using h0
     refine ⟨h0', fun j _ hj => ?_⟩
     have h1 := h j (Nat.zero_le _) hj
     simp only [At, bad, qk] at h1 ⊢
     cases hs : rh (mS s j) <;> cases ho : other (mS s j) <;> simp_all
    ·rintro ⟨h0, h⟩ j _ hj
     have h1 := h j (Nat.zero_le _) hj
     simp only [At, bad, qk] at h1 ⊢
     by_cases hj0 : j = 0
     ·subst hj0; simp [h0]
     ·cases hs : rh (mS s j) <;> cases ho : other (mS s j) <;> simp_all
   have : (first (At s) 0 s.size).elim (some true) (fun _ => some false) = some ((first (At s) 0 s.size).isNone) := by cases first (At s) 0 s.size <;> rfl
   rw [this, e]
   simp [qg, show 1 ≤ s.size by omega, show s.size ≤ 24 by omega]
end Go.Proofs.YtnecojeemmnnaaaGreatDoor.Ck
namespace Go.Proofs.YtnecojeemmnnaaaGreatDoor.Ck
open Go Go.SX Go.SX.Cal
mutual
def gR : ae → Nat
 | ⟨_, _, fs⟩ => te fs + 1
def te : List (rG ae) → Nat
 | [] => 0
 | f :: l => ue f + te l
def ue : rG ae → Nat
 | ⟨_, n, _, t⟩ => n.size + gR t + 1
end
theorem p6 : ∀ {l : List aV} {x : aV}, x ∈ l → ue x ≤ te l
 | [], _, h => by cases h
 | y :: l, x, h => by
  simp only [te]
  rcases List.mem_cons.1 h with rfl | h
  ·omega
  ·have := p6 h; omega
theorem ov : ∀ x : aV, ue x = x.name.size + gR x.type + 1
 | ⟨_, _, _, _⟩ => by simp only [ue]
theorem wO : ∀ x : ae, gR x = te x.fields + 1
 | ⟨_, _, _⟩ => by simp only [gR]
theorem xq : ∀ l : List aV, l.length ≤ te l
 | [] => by simp [te]
 | x :: l => by
  have := xq l
  have := ov x
  simp only [te, List.length_cons]; omega
theorem al {i n : Nat} (h : i < n) (hn : n < 1000000000) : IntKind.i64.wrap ((i : Int) + 1) = ((i + 1 : Nat) : Int) := by rw [hJ (by omega) (by omega)]; omega
theorem aH {α : Type} {xs : List α} {i : Nat} (h : i < xs.length) : at? xs (i : Int) = some xs[i] := by unfold at?; simp [h]
theorem aU {i n : Nat} (h : i < n) : decide ((i : Int) < (n : Int)) = true := by simp [h]
def Nn (fs : List aV) (i : Nat) : ByteArray := (fs[i]?.map (·.name)).getD ByteArray.empty
theorem tR {fs : List aV} {i : Nat} (h : i < fs.length) : Nn fs i = fs[i].name := by simp [Nn, h]
def vJ (fs : List aV) (i : Nat) : Bool := !qg (Nn fs i)
def Nc (fs : List aV) (i j : Nat) : Bool := (Nn fs j).toList == (Nn fs i).toList
def A7 (fs : List aV) (i : Nat) : Bool := (first (Nc fs i) 0 i).isSome
def sC (fs : List aV) : Bool := (first (vJ fs) 0 fs.length).isSome
def DF (fs : List aV) : Bool := (first (A7 fs) 0 fs.length).isSome
structure xH (fs : List aV) : Prop where
 len : fs.length < 1000000000
 nam : ∀ f ∈ fs, f.name.size < 1000000000
theorem JS {fs : List aV} (h : te fs < 1000000000) : xH fs :=
 ⟨by have := xq fs; omega, fun f hf => by have := p6 hf; have := ov f; omega⟩
theorem Lq : ∀ f : aV, rG.mk f.id f.name f.need (ae.mk f.type.kind f.type.scale f.type.fields) = f
 | ⟨_, _, _, ⟨_, _, _⟩⟩ => rfl
theorem eta_t : ∀ t : ae, ae.mk t.kind t.scale t.fields = t
 | ⟨_, _, _⟩ => rfl
theorem Gs {fs : List aV} (ho : xH fs) : bq fs = some (sC fs) := by
 have hl := nf (f := fun k i => ak fs k (i : Int)) (n := fs.length) (P := vJ fs) (A := fun i => some (i : Int)) (B := some (-1)) (fun k i hi => by
   show ak fs (k + 1) (i : Int) = _
   rw [ak, aU hi, aS, aH hi, fu, qn, NL _ (ho.nam _ (List.getElem_mem hi)), al hi ho.len]
   simp only [fu, bI, vJ, tR hi])
  (fun k => by rw [ak]; simp only [Int.lt_irrefl, decide_false, aF]; rfl) aK 0 (Nat.zero_le _) (by rw [bP]; have := ho.len; omega)
 have hl : ak fs aK (0 : Int) = _ := hl
 unfold bq bY
 rw [hl]
 unfold sC
 cases first (vJ fs) 0 fs.length with
 | none => rfl
 | some j => simp [fu]
theorem Hl {fs : List aV} (ho : xH fs) {i : Nat} (hi : i < fs.length) : br ((fs.drop (0 : Int).toNat).take ((i : Int).toNat - (0 : Int).toNat)) fs[i] = some (A7 fs i, fs[i]) := by
 have ep : (fs.drop (0 : Int).toNat).take ((i : Int).toNat - (0 : Int).toNat) = fs.take i := by simp
 rw [ep]
 have hlen : (fs.take i).length = i := by simp; omega
 have hl := nf (f := fun k j => af (fs.take i) k fs[i].id fs[i].name fs[i].need fs[i].type.kind fs[i].type.scale fs[i].type.fields (j : Int)) (n := i) (P := Nc fs i) (A := fun j => some ((j : Int), fs[i])) (B := some (-1, fs[i])) (fun k j hj => by
   have hj' : j < (fs.take i).length := by rw [hlen]; exact hj
   have hjf : j < fs.length := by omega
   show af (fs.take i) (k + 1) _ _ _ _ _ _ (j : Int) = _
   rw [af, aU hj', aS, aH hj', fu, qf, al hj (by have := ho.len; omega)]
   simp only [fu, bI, Nc, tR hi, tR hjf, List.getElem_take, Lq])
  (fun k => by
   show af (fs.take i) (k + 1) _ _ _ _ _ _ (i : Int) = _
   rw [af]; simp only [hlen, Int.lt_irrefl, decide_false, aF, bO, Lq]) aK 0 (Nat.zero_le _) (by rw [bP]; have := ho.len; omega)
 have hl : af (fs.take i) aK _ _ _ _ _ _ (0 : Int) = _ := hl
 unfold br bX
 rw [hl]
 unfold A7
 cases first (Nc fs i) 0 i with
 | none => rfl
 | some j => simp [fu]
theorem Cj {t : ae} (ho : xH t.fields) : dP t aK (0 : Int) = some (if DF t.fields = true then 5 else 0) := by
 have hl := nf (f := fun k i => dP t k (i : Int)) (n := t.fields.length) (P := A7 t.fields) (A := fun _ => some 5) (B := some 0) (fun k i hi => by
   show dP t (k + 1) (i : Int) = _
   rw [dP, aU hi, aS, aH hi, fu, ig (by omega), Hl ho hi, al hi ho.len]
   simp only [fu, bI])
  (fun k => by rw [dP]; simp only [Int.lt_irrefl, decide_false, aF]; rfl) aK 0 (Nat.zero_le _) (by rw [bP]; have := ho.len; omega)
 have hl : dP t aK (0 : Int) = _ := hl
 rw [hl]
 unfold DF
 cases first (A7 t.fields) 0 t.fields.length <;> rfl
theorem Ip {t : ae} (ho : xH t.fields) (rec2 : Int → Option Int) {i : Nat} (hi : i < t.fields.length) : ez rec2 t (i : Int) aK (0 : Int) = if A7 t.fields i = true then some 5 else rec2 ((i + 1 : Nat) : Int) := by
 have hl := nf (f := fun k j => ez rec2 t (i : Int) k (j : Int)) (n := i) (P := Nc t.fields i) (A := fun j => some 5) (B := rec2 ((i + 1 : Nat) : Int)) (fun k j hj => by
   have hjf : j < t.fields.length := by omega
   show ez rec2 t (i : Int) (k + 1) (j : Int) = _
   rw [ez, aU hj, aS, aH hjf, aH hi, al hj (by have := ho.len; omega)]
   simp only [fu, bI, Nc, tR hi, tR hjf])
  (fun k => by
   show ez rec2 t (i : Int) (k + 1) (i : Int) = _
   rw [ez]; simp only [Int.lt_irrefl, decide_false, aF, rj]; rw [al hi ho.len]) aK 0 (Nat.zero_le _) (by rw [bP]; have := ho.len; omega)
 have hl : ez rec2 t (i : Int) aK (0 : Int) = _ := hl
 rw [hl]
 unfold A7
 cases first (Nc t.fields i) 0 i <;> simp
theorem zIO {t : ae} (ho : xH t.fields) : dT t aK (0 : Int) = some (if DF t.fields = true then 5 else 0) := by
 have hl := nf (f := fun k i => dT t k (i : Int)) (n := t.fields.length) (P := A7 t.fields) (A := fun _ => some 5) (B := some 0) (fun k i hi => by
   show dT t (k + 1) (i : Int) = _
   rw [dT, aU hi, aS, Ip ho _ hi])
  (fun k => by rw [dT]; simp only [Int.lt_irrefl, decide_false, aF]; rfl) aK 0 (Nat.zero_le _) (by rw [bP]; have := ho.len; omega)
 have hl : dT t aK (0 : Int) = _ := hl
 rw [hl]
 unfold DF
 cases first (A7 t.fields) 0 t.fields.length <;> rfl
theorem Iz {t : ae} (ho : xH t.fields) : ff t aK (0 : Int) = some (if sC t.fields = true then 4 else if DF t.fields = true then 5 else 0) := by
 have hl := nf (f := fun k i => ff t k (i : Int)) (n := t.fields.length) (P := vJ t.fields) (A := fun _ => some 4) (B := some (if DF t.fields = true then 5 else 0)) (fun k i hi => by
   show ff t (k + 1) (i : Int) = _
   rw [ff, aU hi, aS, aH hi, fu, Oz _ (ho.nam _ (List.getElem_mem hi)), al hi ho.len]
   simp only [fu, bI, vJ, tR hi])
  (fun k => by rw [ff]; simp only [Int.lt_irrefl, decide_false, aF, rH]; exact zIO ho) aK 0 (Nat.zero_le _) (by rw [bP]; have := ho.len; omega)
 have hl : ff t aK (0 : Int) = _ := hl
 rw [hl]
 unfold sC
 cases first (vJ t.fields) 0 t.fields.length <;> rfl
def vf (t : ae) : Int :=
 if t.kind = 6 then (if t.fields.length ≠ 1 ∨ (Nn t.fields 0).size ≠ 0 then 1 else 0)
 else if t.kind ≠ 7 then (if 0 < t.fields.length then 1 else 0)
 else if t.fields.length = 0 then 1 else if sC t.fields = true then 4 else if DF t.fields = true then 5 else 0
def zj (t : ae) : Prop := t.scale ≠ 0 ∧ (t.kind ≠ 3 ∨ t.scale < 0 ∨ 12 < t.scale)
instance (t : ae) : Decidable (zj t) := by unfold zj; infer_instance
def shp (t : ae) : Int := if t.kind < 1 ∨ 7 < t.kind then 3 else if zj t then 1 else vf t
theorem KA {t : ae} (ho : xH t.fields) : pO t = some (vf t) := by
 unfold pO m5 vf
 rw [Gs ho, Cj ho]
 simp only [fu, bI]
 by_cases h6 : t.kind = 6
 ·simp only [h6, beq_self_eq_true, if_true]
  by_cases hl : t.fields.length = 1
  ·have : (0 : Nat) < t.fields.length := by omega
   rw [show at? t.fields (0 : Int) = some t.fields[0] from aH (i := 0) this]
   simp only [hl, fu, p7, tR this]
   by_cases hz : t.fields[0].name.size = 0 <;> simp [hz]
  ·simp [hl, show ((t.fields.length : Int) = 1) = False from eq_false (by omega)]
 ·by_cases h7 : t.kind = 7
  ·simp [h7]
   by_cases hl : t.fields = []
   ·simp [hl]
   ·simp [hl]
    by_cases hb : sC t.fields = true
    ·simp [hb]
    ·simp [hb]
  ·simp [h6, h7]
   by_cases hl : 0 < t.fields.length
   ·simp [hl]
   ·simp [hl]
theorem MV {t : ae} (ho : xH t.fields) : sO t = some (shp t) := by
 have hj3 : ∀ x, jg t x = if x = true then some 1 else if t.kind ≠ 7 then some 0 else some (if sC t.fields = true then 4 else if DF t.fields = true then 5 else 0) := by
  intro x
  unfold jg
  rw [Iz ho]
  cases x <;> simp [bI]
 have hleaf : lV t.kind = some (decide (t.kind ≠ 6 ∧ t.kind ≠ 7)) := by
  unfold lV nL
  by_cases h6 : t.kind = 6 <;> by_cases h7 : t.kind = 7 <;> simp [h6, h7, bI]
 have hj1 : ∀ x, jd t x = if x = true then some 1 else some (vf t) := by
  intro x
  cases x with
  | true => rfl
  | false =>
   unfold jd mw vf
   rw [hleaf]
   simp only [bI, fu, hj3]
   by_cases h6 : t.kind = 6
   ·simp only [h6, beq_self_eq_true, if_true]
    by_cases hl : t.fields.length = 1
    ·have : (0 : Nat) < t.fields.length := by omega
     rw [show at? t.fields (0 : Int) = some t.fields[0] from aH (i := 0) this]
     simp only [hl, fu, p7, tR this]
     by_cases hz : t.fields[0].name.size = 0 <;> simp [hz]
    ·simp [hl, show ((t.fields.length : Int) = 1) = False from eq_false (by omega)]
   ·by_cases h7 : t.kind = 7
    ·simp [h7]
     by_cases hl : t.fields = []
     ·simp [hl]
     ·simp [hl]
    ·simp [h6, h7]
     by_cases hl : 0 < t.fields.length
     ·simp [hl]
     ·simp [hl]
 unfold sO shp fM lB
 simp only [bI, hj1, fu]
 by_cases a1 : t.kind < 1
 ·simp [a1, show ¬ (1 : Int) ≤ t.kind by omega, fu]
 ·by_cases a2 : 7 < t.kind
  ·simp [a2, show (1 : Int) ≤ t.kind by omega, show ¬ t.kind ≤ 7 by omega, fu]
  ·simp only [a1, a2, show (1 : Int) ≤ t.kind by omega, show t.kind ≤ 7 by omega, decide_true, or_self, if_false, if_true, Bool.not_true, fu]
   unfold zj
   by_cases h3 : t.kind = 3
   ·by_cases b1 : t.scale < 0
    ·simp [h3, b1, show ¬ (0 : Int) ≤ t.scale by omega, show t.scale ≠ 0 by omega, fu]
    ·by_cases b2 : 12 < t.scale
     ·simp [h3, b1, b2, show (0 : Int) ≤ t.scale by omega, show ¬ t.scale ≤ 12 by omega, show t.scale ≠ 0 by omega, fu]
     ·simp [h3, b1, b2, show (0 : Int) ≤ t.scale by omega, show t.scale ≤ 12 by omega, fu]
   ·by_cases b0 : t.scale = 0 <;> simp [h3, b0]
end Go.Proofs.YtnecojeemmnnaaaGreatDoor.Ck
namespace Go.Proofs.YtnecojeemmnnaaaGreatDoor.Ck
open Go Go.SX Go.SX.Cal
inductive V : ae → Prop where
 | mk (t : ae) (h1 : shp t = 0) (h2 : ∀ f, f ∈ t.fields → V f.type) : V t
theorem NG (t : ae) : qr t = some (decide (t.kind ≠ 6 ∧ t.kind ≠ 7)) := by
 unfold qr oZ
 by_cases h6 : t.kind = 6 <;> by_cases h7 : t.kind = 7 <;> simp [h6, h7, bI]
theorem Fk (k : Int) : lV k = some (decide (k ≠ 6 ∧ k ≠ 7)) := by
 unfold lV nL
 by_cases h6 : k = 6 <;> by_cases h7 : k = 7 <;> simp [h6, h7, bI]
theorem Lc {t : ae} (ho : xH t.fields) (q : ae → Int → cC → Option (Int × cC)) (l z : Int) :
  eE q t l z = if shp t ≠ 0 then some (shp t, ⟨z⟩) else cf q t l aK z 0 := by
 have hj4 : ∀ x, dH q t l z x = if x = true then some (1, ⟨z⟩) else if vf t ≠ 0 then some (vf t, ⟨z⟩) else cf q t l aK z 0 := by
  intro x
  unfold dH
  rw [KA ho]
  cases x <;> simp [bI, fu]
 unfold eE ja shp
 simp only [bI, hj4]
 by_cases a1 : t.kind < 1
 ·simp [a1]
 ·by_cases a2 : 7 < t.kind
  ·simp [a1, a2]
  ·simp only [a1, a2, decide_false, or_self, if_false, Bool.false_eq_true]
   unfold zj
   by_cases b0 : t.scale = 0
   ·simp [b0]
   ·by_cases h3 : t.kind = 3
    ·by_cases b1 : t.scale < 0
     ·simp [b0, h3, b1]
     ·by_cases b2 : 12 < t.scale
      ·simp [b0, h3, b1, b2]
      ·simp [b0, h3, b1, b2]
    ·simp [b0, h3]
theorem Kt {t : ae} (ho : xH t.fields) (q : ae → Int → Int → Option (Int × Int)) (l z : Int) :
  iM q t l z = if shp t ≠ 0 then some (shp t, z) else eZ q t l aK z 0 := by
 unfold iM
 rw [MV ho]
 simp [bI, fu]
theorem Pl {t : ae} (h : shp t = 0) (hf : ∀ f ∈ t.fields, V f.type) : V t := .mk t h hf
theorem Eo {t : ae} (ho : xH t.fields) (l : Int) (hl0 : -10 ≤ l) (hl1 : l ≤ 10) (q1 : ae → Int → cC → Option (Int × cC)) (q2 : ae → Int → Int → Option (Int × Int))
  (hq : ∀ f ∈ t.fields, ∀ n : Int, 0 ≤ n → n ≤ 40 → ∃ e m, q1 f.type (l + 1) ⟨n⟩ = some (e, ⟨m⟩) ∧ q2 f.type (l + 1) n = some (e, m) ∧ 0 ≤ m ∧ m ≤ 40 ∧ (e = 0 → V f.type)) :
  ∀ (kk i : Nat) (n : Int), i ≤ t.fields.length → t.fields.length - i < kk → 0 ≤ n → n ≤ 40 →
   ∃ e m, cf q1 t l kk n (i : Int) = some (e, ⟨m⟩) ∧ eZ q2 t l kk n (i : Int) = some (e, m) ∧ 0 ≤ m ∧ m ≤ 40 ∧ (e = 0 → ∀ j, i ≤ j → ∀ h : j < t.fields.length, V t.fields[j].type) := by
 intro kk
 induction kk with
 | zero => intro i n _ h; omega
 | succ kk ih =>
  intro i n hi hk n0 n1
  rw [cf, eZ]
  by_cases h : i = t.fields.length
  ·subst h
   simp only [Int.lt_irrefl, decide_false, aF]
   exact ⟨0, n, rfl, rfl, n0, n1, fun _ j h1 h2 => by omega⟩
  ·have hlt : i < t.fields.length := by omega
   rw [aU hlt, aS, aS, aH hlt, fu, fu, hJ (x := l + 1) (by omega) (by omega), al hlt ho.len]
   obtain ⟨e, m, h1, h2, h3, h4, h5⟩ := hq _ (List.getElem_mem hlt) n n0 n1
   rw [h1, h2]
   simp only [fu, bI]
   by_cases he : e = 0
   ·obtain ⟨e', m', g1, g2, g3, g4, g5⟩ := ih (i + 1) m (by omega) (by omega) h3 h4
    refine ⟨e', m', by simpa [he] using g1, by simpa [he] using g2, g3, g4, fun h0 j hj hjl => ?_⟩
    by_cases hji : j = i
    ·subst hji; exact h5 he
    ·exact g5 h0 j (by omega) hjl
   ·exact ⟨e, m, by simp [he], by simp [he], h3, h4, fun h0 => absurd h0 he⟩
theorem I0 : ∀ (d k : Nat) (t : ae) (l n : Int), l = 5 - d → d ≤ 5 → d < k → gR t < 1000000000 → 0 ≤ n → n ≤ 40 →
  ∃ e m, aY k t l ⟨n⟩ = some (e, ⟨m⟩) ∧ dn k t l n = some (e, m) ∧ 0 ≤ m ∧ m ≤ 40 ∧ (e = 0 → V t) := by
 intro d
 induction d with
 | zero =>
  intro k t l n hl _ hk hs n0 n1
  obtain ⟨k, rfl⟩ : ∃ k', k = k' + 1 := ⟨k - 1, by omega⟩
  have hl4 : (4 : Int) < l := by omega
  rw [aY, dn]
  simp only [hl4, decide_true, aS, eJ]
  exact ⟨7, n, rfl, rfl, n0, n1, fun h => by omega⟩
 | succ d ih =>
  intro k t l n hl hd hk hs n0 n1
  obtain ⟨k, rfl⟩ : ∃ k', k = k' + 1 := ⟨k - 1, by omega⟩
  have hl4 : ¬ (4 : Int) < l := by omega
  have hsz := wO t
  have ho : xH t.fields := JS (by omega)
  have hq : ∀ f ∈ t.fields, ∀ n : Int, 0 ≤ n → n ≤ 40 → ∃ e m, aY k f.type (l + 1) ⟨n⟩ = some (e, ⟨m⟩) ∧ dn k f.type (l + 1) n = some (e, m) ∧ 0 ≤ m ∧ m ≤ 40 ∧ (e = 0 → V f.type) := by
   intro f hf n n0 n1
   have h1 := p6 hf
   have h2 := ov f
   exact ih k f.type (l + 1) n (by omega) (by omega) (by omega) (by omega) n0 n1
  have main : ∀ z : Int, 0 ≤ z → z ≤ 40 → ∃ e m, eE (aY k) t l z = some (e, ⟨m⟩) ∧ iM (dn k) t l z = some (e, m) ∧ 0 ≤ m ∧ m ≤ 40 ∧ (e = 0 → V t) := by
   intro z z0 z1
   rw [Lc ho, Kt ho]
   by_cases hsh : shp t = 0
   ·obtain ⟨e, m, h1, h2, h3, h4, h5⟩ := Eo ho l (by omega) (by omega) _ _ hq aK 0 z (Nat.zero_le _) (by rw [bP]; have := ho.len; omega) z0 z1
    refine ⟨e, m, by simpa [hsh] using h1, by simpa [hsh] using h2, h3, h4, fun he => Pl hsh (fun f hf => ?_)⟩
    obtain ⟨j, hj, rfl⟩ := List.getElem_of_mem hf
    exact h5 he j (Nat.zero_le _) hj
   ·exact ⟨shp t, z, by simp [hsh], by simp [hsh], z0, z1, fun h => absurd h hsh⟩
  rw [aY, dn]
  simp only [hl4, decide_false, aF, NG, Fk, fu, eJ]
  by_cases hleaf : t.kind ≠ 6 ∧ t.kind ≠ 7
  ·simp only [hleaf, ne_eq, not_false_eq_true, and_self, decide_true, aS]
   by_cases h40 : n = 40
   ·simp only [h40, beq_self_eq_true, aS]
    exact ⟨7, 40, rfl, rfl, by omega, by omega, fun h => by omega⟩
   ·have : (n == 40) = false := by simpa using h40
    simp only [this, aF]
    rw [hJ (x := n + 1) (by omega) (by omega)]
    exact main (n + 1) (by omega) (by omega)
  ·simp only [hleaf, decide_false, aF]
   exact main n n0 n1
theorem nU (t : ae) (hs : gR t < 1000000000) : ∃ e, kO t = some e ∧ lE t = some e ∧ (e = 0 → V t) := by
 obtain ⟨e, m, h1, h2, h3, h4, h5⟩ := I0 4 aK t 1 0 (by omega) (by omega) (by rw [bP]; omega) hs (by omega) (by omega)
 refine ⟨e, ?_, ?_, h5⟩
 ·unfold kO; rw [h1]; rfl
 ·unfold lE; rw [h2]; rfl
end Go.Proofs.YtnecojeemmnnaaaGreatDoor.Ck
