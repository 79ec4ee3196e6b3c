/- The calendar, in plain integers. What needs no program: searches. Numbers: how a number is written, by both sides. Packed numbers: the same bytes on both sides. Unpacked numbers: the same on both sides; the law of Pack and Unpack. Numbers: what is written one after the other, as differences, as runs. Packed numbers, from a list that is lent; there and back. Numbers: what is written as differences from the least one. Numbers: what is written as words and places. Numbers: the encoders of both sides are equal. Numbers: the first side's readers: they end at any bytes, and read what was written. Numbers: the first side reads what was written, and ends at any bytes. Numbers: the second side's readers: they end at any bytes, and read what was written. Numbers: the second side reads what was written, and ends at any bytes. Numbers: what both sides answer. -/
import Derived.Lib.SlicesCompact
import Derived.Test.YtmaemlebpjnmoaaGeA
namespace Go.SX.Cal
open Go
set_option linter.unusedVariables false

theorem w64 {x : Int} (h1 : -9223372036854775808 ≤ x) (h2 : x ≤ 9223372036854775807) : IntKind.i64.wrap x = x := by
  simp only [IntKind.wrap, IntKind.bits, IntKind.signed]
  simp only [Bool.true_and, decide_eq_true_eq, ge_iff_le]
  split <;> omega

/-! ### years of an era -/

def S (y : Int) : Int := 365 * y + y / 4 - y / 100
def F (r : Int) : Int := r - r / 1460 + r / 36524
/-- a year has 366 days -/
def leap (y : Int) : Prop := y % 4 = 0 ∧ (y % 100 ≠ 0 ∨ y % 400 = 0)

instance (y : Int) : Decidable (leap y) := by unfold leap; infer_instance

/-! ### days -/

/-- the first of March of a year -/
def E (y : Int) : Int := y / 400 * 146097 + S (y % 400) - 719468

end Go.SX.Cal
namespace Go.SX.Cal
open Go Go.SX
set_option linter.unusedVariables false
set_option linter.unusedSimpArgs false

theorem ift_true {β : Type} (x y : Option β) : ift true x y = x := rfl
theorem ift_false {β : Type} (x y : Option β) : ift false x y = y := rfl
theorem ift_ite {β : Type} (b : Bool) (x y : Option β) : ift b x y = if b = true then x else y := by cases b <;> rfl
theorem big_val : BIG = 1152921504606846976 := rfl

/-- the first index from i on, below n, at which P holds -/
def first (P : Nat → Bool) (i n : Nat) : Option Nat := (List.range' i (n - i)).find? P

theorem first_step {P : Nat → Bool} {i n : Nat} (h : i < n) : first P i n = if P i = true then some i else first P (i + 1) n := by
  unfold first
  rw [show n - i = (n - (i + 1)) + 1 by omega, List.range'_succ, List.find?_cons]
  cases hp : P i <;> simp [hp]

theorem first_end {P : Nat → Bool} {n : Nat} : first P n n = none := by simp [first]

theorem first_none {P : Nat → Bool} {i n : Nat} : first P i n = none ↔ ∀ j, i ≤ j → j < n → P j = false := by
  unfold first
  rw [List.find?_eq_none]
  constructor
  · intro h j h1 h2
    have := h j (by rw [List.mem_range'_1]; omega)
    simpa using this
  · intro h j hj
    rw [List.mem_range'_1] at hj
    have := h j (by omega) (by omega)
    simp [this]

theorem search {β : Type} {f : Nat → Nat → Option β} {n : Nat} {P : Nat → Bool} {A : Nat → Option β} {B : Option β} (hstep : ∀ k i, i < n → f (k + 1) i = if P i = true then A i else f k (i + 1)) (hend : ∀ k, f (k + 1) n = B) :
    ∀ k i, i ≤ n → n - i < k → f k i = (first P i n).elim B A := by
  intro k
  induction k with
  | zero => intro i _ h; omega
  | succ k ih =>
    intro i hi hk
    by_cases h : i = n
    · subst h
      rw [hend, first_end]; rfl
    · rw [hstep k i (by omega), first_step (by omega)]
      by_cases hp : P i = true
      · simp [hp]
      · simp only [hp, if_false]
        exact ih (i + 1) (by omega) (by omega)

theorem wrap_succ {i n : Nat} (h : i < n) (hn : n < 1000000000) : IntKind.i64.wrap ((i : Int) + 1) = ((i + 1 : Nat) : Int) := by rw [w64 (by omega) (by omega)]; omega

theorem at_nat {α : Type} {xs : List α} {i : Nat} (h : i < xs.length) : at? xs (i : Int) = some xs[i] := by unfold at?; simp [h]

theorem dec_lt {i n : Nat} (h : i < n) : decide ((i : Int) < (n : Int)) = true := by simp [h]


theorem bnd_some' {α β : Type} (a : α) (f : α → Option β) : bnd (some a) f = f a := rfl

end Go.SX.Cal
namespace Go.Proofs.Ytmaemlebpjnmoaa
open Go Go.SX Go.SX.Cal
set_option linter.unusedVariables false
set_option linter.unusedSimpArgs false

theorem iftT {β : Type} (x y : Option β) : ift true x y = x := rfl
theorem iftF {β : Type} (x y : Option β) : ift false x y = y := rfl
theorem bnd_s {α β : Type} (a : α) (f : α → Option β) : bnd (some a) f = f a := rfl
theorem grd_p {β : Type} {p : Prop} [Decidable p] {x : Option β} (h : p) : grd p x = x := if_pos h
theorem bigv : BIG = 1152921504606846976 := rfl

/-- the bytes of a number: seven bits each, the lowest first -/
def vi (n : Nat) : List Int := if n < 128 then [(n : Int)] else ((n % 128 + 128 : Nat) : Int) :: vi (n / 128)
termination_by n
decreasing_by omega

theorem vi_small {n : Nat} (h : n < 128) : vi n = [(n : Int)] := by rw [vi, if_pos h]
theorem vi_big {n : Nat} (h : ¬ n < 128) : vi n = ((n % 128 + 128 : Nat) : Int) :: vi (n / 128) := by rw [vi, if_neg h]

theorem vi_len : ∀ (k n : Nat), n < 128 ^ (k + 1) → (vi n).length ≤ k + 1
  | 0, n, h => by rw [vi_small (by simpa using h)]; simp
  | k + 1, n, h => by
    by_cases hn : n < 128
    · rw [vi_small hn]; simp
    · rw [vi_big hn, List.length_cons]
      have : n / 128 < 128 ^ (k + 1) := by
        refine Nat.div_lt_of_lt_mul ?_
        rw [Nat.pow_succ] at h; omega
      have := vi_len k (n / 128) this
      omega

theorem u8w (x : Int) : IntKind.u8.wrap x = x % 256 := by
  unfold IntKind.wrap; simp [IntKind.bits, IntKind.signed]
theorem u64w (x : Int) : IntKind.u64.wrap x = x % 18446744073709551616 := by
  unfold IntKind.wrap; simp [IntKind.bits, IntKind.signed]

theorem or128 : ∀ m, m < 256 → m ||| 128 = m % 128 + 128 := by decide +kernel

theorem byte_or (n : Nat) : IntKind.u8.wrap ((BitVec.ofInt (IntKind.u8).bits (IntKind.u8.wrap (n : Int)) ||| BitVec.ofInt (IntKind.u8).bits (128 : Int)).toNat : Int) = ((n % 128 + 128 : Nat) : Int) := by
  rw [u8w (n : Int)]
  have h1 : (BitVec.ofInt (IntKind.u8).bits ((n : Int) % 256)).toNat = n % 256 := by
    show (BitVec.ofInt 8 ((n : Int) % 256)).toNat = _
    rw [BitVec.toNat_ofInt]; omega
  have h2 : (BitVec.ofInt (IntKind.u8).bits (128 : Int)).toNat = 128 := by decide
  rw [BitVec.toNat_or, h1, h2, or128 _ (by omega), u8w]
  omega

theorem fdiv7 (n : Nat) : ((n : Int).fdiv (2 ^ (min (7 : Int).toNat (IntKind.u64).bits))) = ((n / 128 : Nat) : Int) := by
  rw [show (2 : Int) ^ (min (7 : Int).toNat (IntKind.u64).bits) = 128 from by decide, Int.fdiv_eq_ediv_of_nonneg _ (by decide)]
  omega

/-- column.number -/
theorem cnumber : ∀ (k f n : Nat) (b : List Int), n < 128 ^ (k + 1) → k < f → b.length + k + 1 ≤ 4294967296 → column_number_s_l1 f b (n : Int) = some ((), b ++ vi n)
  | k, 0, n, b, _, hf, _ => by omega
  | k, f + 1, n, b, hn, hf, hb => by
    rw [column_number_s_l1]
    by_cases h : n < 128
    · rw [decide_eq_false (by omega), iftF]
      unfold column_number_s_j1
      rw [grd_p (by omega), vi_small h, u8w]
      congr 4
      omega
    · cases k with
      | zero => simp at hn; omega
      | succ k =>
        rw [decide_eq_true (by omega), iftT, byte_or, bnd_s, grd_p (by omega), fdiv7]
        have : n / 128 < 128 ^ (k + 1) := by
          refine Nat.div_lt_of_lt_mul ?_
          rw [Nat.pow_succ] at hn; omega
        rw [cnumber k f (n / 128) _ this (by omega) (by simp; omega), vi_big h]
        simp

theorem col_number {n : Nat} (hn : n < 18446744073709551616) {b : List Int} (hb : b.length ≤ 4294967000) : column_number_s (n : Int) b = some ((), b ++ vi n) :=
  cnumber 9 BIG n b (by omega) (by rw [bigv]; omega) (by omega)

/-- signed numbers: the sign is the lowest bit -/
def zz (n : Int) : Nat := if n < 0 then (-2 * n - 1).toNat else (2 * n).toNat

theorem zz_lt {n : Int} (h : -9223372036854775808 ≤ n ∧ n ≤ 9223372036854775807) : zz n < 18446744073709551616 := by unfold zz; split <;> omega

theorem xor_ones (x : Nat) (hx : x < 18446744073709551616) : x ^^^ 18446744073709551615 = 18446744073709551615 - x := by
  have h : (BitVec.ofNat 64 x ^^^ BitVec.allOnes 64) = ~~~ BitVec.ofNat 64 x := BitVec.xor_allOnes
  have h2 := congrArg BitVec.toNat h
  rw [BitVec.toNat_xor, BitVec.toNat_not] at h2
  have e1 : (BitVec.ofNat 64 x).toNat = x := by rw [BitVec.toNat_ofNat]; exact Nat.mod_eq_of_lt hx
  have e2 : (BitVec.allOnes 64).toNat = 18446744073709551615 := by decide
  rw [e1, e2] at h2
  omega

/-- what is written for a sign and a size -/
theorem zig {n : Int} (h : -9223372036854775808 ≤ n ∧ n ≤ 9223372036854775807) :
    IntKind.u64.wrap ((BitVec.ofInt (IntKind.u64).bits (IntKind.u64.wrap ((IntKind.u64.wrap n) * 2 ^ (min (1 : Int).toNat (IntKind.u64).bits))) ^^^ BitVec.ofInt (IntKind.u64).bits (IntKind.u64.wrap (n.fdiv (2 ^ (min (63 : Int).toNat (IntKind.i64).bits))))).toNat : Int) = ((zz n : Nat) : Int) := by
  have p1 : (2 : Int) ^ (min (1 : Int).toNat (IntKind.u64).bits) = 2 := by decide
  have p63 : (2 : Int) ^ (min (63 : Int).toNat (IntKind.i64).bits) = 9223372036854775808 := by decide
  rw [p1, p63, Int.fdiv_eq_ediv_of_nonneg _ (by decide), u64w n, u64w (n % 18446744073709551616 * 2), u64w (n / 9223372036854775808)]
  have hz := zz_lt h
  have toN : ∀ x : Nat, x < 18446744073709551616 → (BitVec.ofInt (IntKind.u64).bits (x : Int)).toNat = x := fun x hx => by
    show (BitVec.ofInt 64 (x : Int)).toNat = x
    rw [BitVec.toNat_ofInt]; omega
  by_cases hn : n < 0
  · have e1 : n % 18446744073709551616 * 2 % 18446744073709551616 = (((18446744073709551616 + 2 * n) % 18446744073709551616).toNat : Int) := by omega
    have e2 : n / 9223372036854775808 % 18446744073709551616 = ((18446744073709551615 : Nat) : Int) := by omega
    rw [e1, e2, BitVec.toNat_xor, toN _ (by omega), toN _ (by omega), xor_ones _ (by omega), u64w]
    unfold zz
    rw [if_pos hn]
    omega
  · have e1 : n % 18446744073709551616 * 2 % 18446744073709551616 = ((2 * n).toNat : Int) := by omega
    have e2 : n / 9223372036854775808 % 18446744073709551616 = ((0 : Nat) : Int) := by omega
    rw [e1, e2, BitVec.toNat_xor, toN _ (by omega), toN _ (by omega), Nat.xor_zero, u64w]
    unfold zz
    rw [if_neg hn]
    omega

theorem col_signed {n : Int} (h : -9223372036854775808 ≤ n ∧ n ≤ 9223372036854775807) {b : List Int} (hb : b.length ≤ 4294967000) : column_signed_s n b = some ((), b ++ vi (zz n)) := by
  unfold column_signed_s
  rw [bnd_s, bnd_s, zig h, bnd_s, col_number (zz_lt h) hb, bnd_s]

theorem col_signed2 {n : Int} (h : -9223372036854775808 ≤ n ∧ n ≤ 9223372036854775807) : column_signed_s_2 n = some (vi (zz n)) := by
  unfold column_signed_s_2
  rw [bnd_s, bnd_s, zig h, bnd_s, col_number (zz_lt h) (by simp), bnd_s, List.nil_append]

end Go.Proofs.Ytmaemlebpjnmoaa
namespace Go.Proofs.Ytmaemlebpjnmoaa
open Go Go.SX Go.SX.Cal
set_option linter.unusedVariables false
set_option linter.unusedSimpArgs false

theorem ofI64 (x : Nat) (h : x < 18446744073709551616) : (BitVec.ofInt 64 (x : Int)).toNat = x := by
  rw [BitVec.toNat_ofInt]
  have : (x : Int) % ((2 ^ 64 : Nat) : Int) = x := by omega
  rw [this]; rfl

theorem andi (x : Nat) (hx : x < 9223372036854775808) : IntKind.i64.wrap ((BitVec.ofInt (IntKind.i64).bits (x : Int) &&& BitVec.ofInt (IntKind.i64).bits (1 : Int)).toNat : Int) = ((x % 2 : Nat) : Int) := by
  show IntKind.i64.wrap ((BitVec.ofInt 64 (x : Int) &&& BitVec.ofInt 64 ((1 : Nat) : Int)).toNat : Int) = _
  rw [BitVec.toNat_and, ofI64 x (by omega), ofI64 1 (by decide)]
  have e : x &&& 1 = x % 2 := Nat.and_two_pow_sub_one_eq_mod x 1
  rw [e, w64 (by omega) (by omega)]

theorem ori (x y : Nat) (hx : x < 9223372036854775808) (hy : y < 9223372036854775808) : IntKind.i64.wrap ((BitVec.ofInt (IntKind.i64).bits (x : Int) ||| BitVec.ofInt (IntKind.i64).bits (y : Int)).toNat : Int) = ((x ||| y : Nat) : Int) := by
  show IntKind.i64.wrap ((BitVec.ofInt 64 (x : Int) ||| BitVec.ofInt 64 (y : Int)).toNat : Int) = _
  have : x ||| y < 2 ^ 63 := Nat.or_lt_two_pow hx hy
  rw [BitVec.toNat_or, ofI64 x (by omega), ofI64 y (by omega), w64 (by omega) (by omega)]

theorem fdn (x s : Nat) : (x : Int).fdiv (2 ^ s) = ((x / 2 ^ s : Nat) : Int) := by
  rw [Int.fdiv_eq_ediv_of_nonneg _ (Int.le_of_lt (Int.pow_pos (by decide)))]
  push_cast; rfl

theorem min64i (s : Nat) (h : s < 64) : min ((s : Int)).toNat (IntKind.i64).bits = s := by
  show min ((s : Int)).toNat 64 = s
  omega
theorem min8 (s : Nat) (h : s < 8) : min ((s : Int)).toNat (IntKind.u8).bits = s := by
  show min ((s : Int)).toNat 8 = s
  omega

/-- a byte with one bit more -/
def setb (e : Nat) (t : Nat) : Nat := e ||| 2 ^ t

theorem or8 : ∀ e : Fin 256, ∀ t : Fin 8, IntKind.u8.wrap ((BitVec.ofInt (IntKind.u8).bits (e.val : Int) ||| BitVec.ofInt (IntKind.u8).bits (IntKind.u8.wrap ((1 : Int) * 2 ^ t.val))).toNat : Int) = (setb e.val t.val : Int) := by decide +kernel
theorem setb_lt : ∀ e : Fin 256, ∀ t : Fin 8, setb e.val t.val < 256 := by decide +kernel
theorem and8 : ∀ e : Fin 256, ∀ t : Fin 8, IntKind.u8.wrap ((BitVec.ofInt (IntKind.u8).bits ((e.val : Int).fdiv (2 ^ t.val)) &&& BitVec.ofInt (IntKind.u8).bits (1 : Int)).toNat : Int) = if e.val.testBit t.val = true then 1 else 0 := by decide +kernel
theorem bits8 (a b : Fin 256) (h : ∀ t : Fin 8, a.val.testBit t.val = b.val.testBit t.val) : a = b := by
  refine Fin.ext (Nat.eq_of_testBit_eq fun i => ?_)
  by_cases hi : i < 8
  · exact h ⟨i, hi⟩
  · have hp : 2 ^ 8 ≤ 2 ^ i := Nat.pow_le_pow_right (by decide) (by omega)
    rw [Nat.testBit_lt_two_pow (Nat.lt_of_lt_of_le a.isLt hp), Nat.testBit_lt_two_pow (Nat.lt_of_lt_of_le b.isLt hp)]

/-- the bit p of bytes -/
def obit (b : List Int) (p : Nat) : Bool := (b.getD (p / 8) 0).toNat.testBit (p % 8)

def byts (b : List Int) : Prop := ∀ e ∈ b, 0 ≤ e ∧ e ≤ 255

theorem byts_get {b : List Int} (h : byts b) {j : Nat} (hj : j < b.length) : ∃ e : Fin 256, b[j] = (e.val : Int) ∧ b.getD j 0 = (e.val : Int) := by
  have := h b[j] (List.getElem_mem hj)
  refine ⟨⟨b[j].toNat, by omega⟩, by simp only; omega, ?_⟩
  simp only [List.getD, List.getElem?_eq_getElem hj, Option.getD_some]; omega

/-- bytes that hold the first P bits of a stream -/
structure Inv (src : Nat → Bool) (N : Nat) (out : List Int) (P : Nat) : Prop where
  len : out.length = N
  by8 : byts out
  bit : ∀ p, p < 8 * N → obit out p = (decide (p < P) && src p)

theorem inv_start (src : Nat → Bool) (N : Nat) : Inv src N (List.replicate N 0) 0 := by
  refine ⟨by simp, fun e he => by have := List.eq_of_mem_replicate he; omega, fun p hp => ?_⟩
  have : (List.replicate N (0 : Int)).getD (p / 8) 0 = 0 := by
    simp only [List.getD, List.getElem?_replicate]; split <;> rfl
  unfold obit
  rw [this]; simp

theorem inv_skip {src : Nat → Bool} {N : Nat} {out : List Int} {P : Nat} (h : Inv src N out P) (hs : src P = false) : Inv src N out (P + 1) := by
  refine ⟨h.len, h.by8, fun p hp => ?_⟩
  rw [h.bit p hp]
  by_cases e : p = P
  · subst e; rw [hs]; simp
  · have : decide (p < P + 1) = decide (p < P) := by rw [decide_eq_decide]; omega
    rw [this]

theorem inv_set {src : Nat → Bool} {N : Nat} {out : List Int} {P : Nat} (h : Inv src N out P) (hP : P < 8 * N) (hs : src P = true) (e : Fin 256) (he : out.getD (P / 8) 0 = (e.val : Int)) :
    Inv src N (out.set (P / 8) (setb e.val (P % 8) : Int)) (P + 1) := by
  have hlt : P / 8 < out.length := by rw [h.len]; omega
  have hm : P % 8 < 8 := Nat.mod_lt _ (by decide)
  have hsl := setb_lt e ⟨P % 8, hm⟩
  simp only at hsl
  refine ⟨by simpa using h.len, fun x hx => ?_, fun p hp => ?_⟩
  · rcases List.mem_or_eq_of_mem_set hx with h1 | h1
    · exact h.by8 x h1
    · subst h1; omega
  · have hb := h.bit p hp
    unfold obit at hb ⊢
    by_cases ej : p / 8 = P / 8
    · rw [ej] at hb ⊢
      have e1 : (out.set (P / 8) (setb e.val (P % 8) : Int)).getD (P / 8) 0 = (setb e.val (P % 8) : Int) := by
        simp only [List.getD, List.getElem?_set_self hlt, Option.getD_some]
      rw [e1, Int.toNat_natCast]
      rw [he, Int.toNat_natCast] at hb
      unfold setb
      rw [Nat.testBit_or, hb, Nat.testBit_two_pow]
      by_cases ep : p = P
      · subst ep; rw [hs]; simp
      · have : ¬ P % 8 = p % 8 := by omega
        have e2 : decide (p < P + 1) = decide (p < P) := by rw [decide_eq_decide]; omega
        rw [e2]; simp [this]
    · have e1 : (out.set (P / 8) (setb e.val (P % 8) : Int)).getD (p / 8) 0 = out.getD (p / 8) 0 := by
        simp only [List.getD, List.getElem?_set_ne (Ne.symm ej)]
      rw [e1, hb]
      have e2 : decide (p < P + 1) = decide (p < P) := by rw [decide_eq_decide]; omega
      rw [e2]

theorem inv_same {src : Nat → Bool} {N : Nat} {a b : List Int} {P : Nat} (ha : Inv src N a P) (hb : Inv src N b P) : a = b := by
  refine List.ext_getElem (by rw [ha.len, hb.len]) (fun j h1 h2 => ?_)
  obtain ⟨x, x1, x2⟩ := byts_get ha.by8 h1
  obtain ⟨y, y1, y2⟩ := byts_get hb.by8 h2
  have : x = y := by
    refine bits8 x y (fun t => ?_)
    have hp : 8 * j + t.val < 8 * N := by have := ha.len; omega
    have e1 := ha.bit _ hp
    have e2 := hb.bit _ hp
    have := e1.trans e2.symm
    unfold obit at this
    rw [show (8 * j + t.val) / 8 = j by omega, show (8 * j + t.val) % 8 = t.val by omega, x2, y2, Int.toNat_natCast, Int.toNat_natCast] at this
    exact this
  rw [x1, y1, this]

/-- the stream of bits of numbers -/
def srcL (w : Nat) (l : List Int) (p : Nat) : Bool := (l.getD (p / w) 0).toNat.testBit (p % w)

theorem src_at {w : Nat} {l : List Int} {i k : Nat} (hi : i < l.length) (hk : k < w) : srcL w l (i * w + k) = l[i].toNat.testBit k := by
  unfold srcL
  have e1 : (i * w + k) / w = i := by rw [Nat.mul_comm, Nat.mul_add_div (by omega), Nat.div_eq_of_lt hk]; rfl
  have e2 : (i * w + k) % w = k := by rw [Nat.mul_comm, Nat.mul_add_mod, Nat.mod_eq_of_lt hk]
  rw [e1, e2]
  simp only [List.getD, List.getElem?_eq_getElem hi, Option.getD_some]

structure Fits (w : Nat) (l : List Int) : Prop where
  w62 : w ≤ 62
  len : l.length ≤ 10000000
  ok : ∀ e ∈ l, 0 ≤ e ∧ e < 4611686018427387904

theorem pos_eq {w i k : Nat} (hw : w ≤ 62) (hi : i ≤ 10000000) (hk : k ≤ 62) : IntKind.i64.wrap ((IntKind.i64.wrap ((i : Int) * (w : Int))) + (k : Int)) = ((i * w + k : Nat) : Int) := by
  have hm : i * w ≤ 10000000 * 62 := Nat.mul_le_mul hi hw
  rw [show (i : Int) * (w : Int) = ((i * w : Nat) : Int) by push_cast; rfl, w64 (x := ((i * w : Nat) : Int)) (by omega) (by omega), w64 (by omega) (by omega)]
  push_cast; rfl

theorem pos_div {P : Nat} (h : P < 1000000000000) : IntKind.i64.wrap (((P : Nat) : Int).tdiv 8) = ((P / 8 : Nat) : Int) := by
  rw [Int.tdiv_eq_ediv_of_nonneg (by omega), w64 (by omega) (by omega)]; omega
theorem pos_mod {P : Nat} : ((P : Nat) : Int).tmod 8 = ((P % 8 : Nat) : Int) := by
  rw [Int.tmod_eq_emod_of_nonneg (by omega)]; omega

theorem bit_mod (x k : Nat) : ((x / 2 ^ k % 2 : Nat) : Int) = if x.testBit k = true then 1 else 0 := by
  rw [Nat.testBit_eq_decide_div_mod_eq]
  have := Nat.mod_two_eq_zero_or_one (x / 2 ^ k)
  by_cases h : x / 2 ^ k % 2 = 1
  · rw [h]; simp
  · rw [show x / 2 ^ k % 2 = 0 by omega]; simp

theorem pack_inner {w : Nat} {l : List Int} (hF : Fits w l) {N : Nat} (hN : l.length * w ≤ 8 * N) (rec1 : List Int → Int → Option (List Int)) {i : Nat} (hi : i < l.length) : ∀ (m f k : Nat) (out : List Int), k + m = w → m < f → Inv (srcL w l) N out (i * w + k) →
    ∃ out', column_pack_l2 rec1 (w : Int) (i : Int) l[i] f out (k : Int) = rec1 out' ((i + 1 : Nat) : Int) ∧ Inv (srcL w l) N out' ((i + 1) * w) := by
  have hw := hF.w62
  have hlen := hF.len
  intro m
  induction m with
  | zero =>
    intro f k out hk hf hI
    obtain ⟨f, rfl⟩ : ∃ q, f = q + 1 := ⟨f - 1, by omega⟩
    rw [column_pack_l2, show decide ((k : Int) < (w : Int)) = false by simp; omega, ift_false]
    unfold column_pack_j2
    rw [wrap_succ hi (by omega)]
    refine ⟨out, rfl, ?_⟩
    rw [Nat.add_mul, Nat.one_mul, show i * w + w = i * w + k by omega]
    exact hI
  | succ m ih =>
    intro f k out hk hf hI
    obtain ⟨f, rfl⟩ : ∃ q, f = q + 1 := ⟨f - 1, by omega⟩
    have he := hF.ok l[i] (List.getElem_mem hi)
    obtain ⟨x, hx⟩ : ∃ x : Nat, l[i] = (x : Int) := ⟨l[i].toNat, by omega⟩
    have hsrc := src_at (w := w) hi (show k < w by omega)
    have hP : i * w + k < 8 * N := by
      have : (i + 1) * w ≤ l.length * w := Nat.mul_le_mul_right _ hi
      rw [Nat.add_mul, Nat.one_mul] at this
      omega
    have hm : i * w ≤ 10000000 * 62 := Nat.mul_le_mul (by omega) hw
    rw [hx, Int.toNat_natCast] at hsrc
    have hxk : x / 2 ^ k < 9223372036854775808 := Nat.lt_of_le_of_lt (Nat.div_le_self _ _) (by omega)
    have ek : IntKind.i64.wrap ((k : Int) + 1) = ((k + 1 : Nat) : Int) := by rw [w64 (by omega) (by omega)]; omega
    rw [column_pack_l2, show decide ((k : Int) < (w : Int)) = true by simp; omega, ift_true, grd_pos (by omega), min64i k (by omega), hx, fdn, andi _ hxk, bnd_some', bit_mod]
    by_cases hb : x.testBit k = true
    · rw [if_pos hb, show ((1 : Int) == 1) = true from rfl, ift_true, pos_eq hw (by omega) (by omega), pos_div (by omega), bnd_some', pos_mod]
      have hj : (i * w + k) / 8 < out.length := by rw [hI.len]; omega
      obtain ⟨e, e1, e2⟩ := byts_get hI.by8 hj
      have hm8 : (i * w + k) % 8 < 8 := Nat.mod_lt _ (by decide)
      rw [at_nat hj, bnd_some', bnd_some', grd_pos (by omega), min8 _ hm8, e1, or8 e ⟨_, hm8⟩, bnd_some', Int.toNat_natCast]
      have hI' := inv_set hI hP (by rw [hsrc, hb]) e e2
      unfold column_pack_j1
      rw [ek]
      have := ih f (k + 1) _ (by omega) (by omega) hI'
      rw [hx] at this
      exact this
    · rw [if_neg hb, show ((0 : Int) == 1) = false from rfl, ift_false]
      have hI' := inv_skip hI (by rw [hsrc]; simpa using hb)
      unfold column_pack_j1
      rw [ek]
      have := ih f (k + 1) _ (by omega) (by omega) hI'
      rw [hx] at this
      exact this

theorem pack_outer {w : Nat} {l : List Int} (hF : Fits w l) {N : Nat} (hN : l.length * w ≤ 8 * N) : ∀ (m f i : Nat) (out : List Int), i + m = l.length → m < f → Inv (srcL w l) N out (i * w) →
    ∃ out', column_pack_l1 (w : Int) l f out (i : Int) = some out' ∧ Inv (srcL w l) N out' (l.length * w) := by
  have hw := hF.w62
  intro m
  induction m with
  | zero =>
    intro f i out hi hf hI
    obtain ⟨f, rfl⟩ : ∃ q, f = q + 1 := ⟨f - 1, by omega⟩
    rw [column_pack_l1, show decide ((i : Int) < (l.length : Int)) = false by simp; omega, ift_false]
    exact ⟨out, rfl, by rw [show l.length = i by omega]; exact hI⟩
  | succ m ih =>
    intro f i out hi hf hI
    obtain ⟨f, rfl⟩ : ∃ q, f = q + 1 := ⟨f - 1, by omega⟩
    have hil : i < l.length := by omega
    obtain ⟨out1, h1, h2⟩ := pack_inner hF hN (column_pack_l1 (w : Int) l f) hil w BIG 0 out (by omega) (by rw [big_val]; omega) (by simpa using hI)
    rw [show ((0 : Nat) : Int) = 0 from rfl] at h1
    rw [column_pack_l1, dec_lt hil, ift_true, at_nat hil, bnd_some', h1]
    exact ih f (i + 1) out1 (by omega) (by omega) h2

theorem size_eq {w n : Nat} (hw : w ≤ 62) (hn : n ≤ 10000000) : IntKind.i64.wrap ((IntKind.i64.wrap ((IntKind.i64.wrap ((n : Int) * (w : Int))) + (7 : Int))).tdiv (8 : Int)) = (((n * w + 7) / 8 : Nat) : Int) := by
  have := pos_eq (w := w) (i := n) (k := 7) hw hn (by omega)
  have hm : n * w ≤ 10000000 * 62 := Nat.mul_le_mul hn hw
  rw [show ((7 : Nat) : Int) = 7 from rfl] at this
  rw [this, pos_div (by omega)]

theorem vpack {w : Nat} {l : List Int} (hF : Fits w l) : ∃ out, column_pack (w : Int) l = some out ∧ Inv (srcL w l) ((l.length * w + 7) / 8) out (l.length * w) := by
  have hw := hF.w62
  have hm : l.length * w ≤ 10000000 * 62 := Nat.mul_le_mul hF.len hw
  have hs := size_eq hw hF.len
  have hlen := hF.len
  unfold column_pack
  rw [bnd_some', hs, grd_pos (by omega), Int.toNat_natCast]
  exact pack_outer hF (by omega) l.length BIG 0 _ (by omega) (by rw [big_val]; omega) (by rw [Nat.zero_mul]; exact inv_start _ _)

/-! ### the reference -/

end Go.Proofs.Ytmaemlebpjnmoaa
namespace Go.Proofs.Ytmaemlebpjnmoaa
open Go Go.SX Go.SX.Cal
set_option linter.unusedVariables false
set_option linter.unusedSimpArgs false

/-- the number of k bits from a place on -/
def valB (src : Nat → Bool) (base : Nat) : Nat → Nat
  | 0 => 0
  | k + 1 => valB src base k + (if src (base + k) = true then 2 ^ k else 0)

theorem valB_lt (src : Nat → Bool) (base : Nat) : ∀ k, valB src base k < 2 ^ k
  | 0 => by simp [valB]
  | k + 1 => by
    have := valB_lt src base k
    simp only [valB, Nat.pow_succ]
    split <;> omega

theorem pow_le62 {k : Nat} (h : k ≤ 62) : 2 ^ k ≤ 4611686018427387904 := Nat.le_trans (Nat.pow_le_pow_right (by decide) h) (by decide)
theorem pow_lt62 {k : Nat} (h : k < 62) : 2 ^ k ≤ 2305843009213693952 := Nat.le_trans (Nat.pow_le_pow_right (by decide) (show k ≤ 61 by omega)) (by decide)

structure UB (w n : Nat) (b : List Int) : Prop where
  w62 : w ≤ 62
  len : n ≤ 10000000
  by8 : byts b
  bl : b.length = (n * w + 7) / 8

theorem pos_lt {w n i k : Nat} (hi : i < n) (hk : k < w) : i * w + k < n * w := by
  have : (i + 1) * w ≤ n * w := Nat.mul_le_mul_right _ hi
  rw [Nat.add_mul, Nat.one_mul] at this
  omega

theorem byte_at {w n : Nat} {b : List Int} (h : UB w n b) {i k : Nat} (hi : i < n) (hk : k < w) : ∃ (hj : (i * w + k) / 8 < b.length) (e : Fin 256), b[(i * w + k) / 8] = (e.val : Int) ∧ obit b (i * w + k) = e.val.testBit ((i * w + k) % 8) := by
  have hp := pos_lt hi hk
  have hbl := h.bl
  have hj : (i * w + k) / 8 < b.length := by omega
  obtain ⟨e, e1, e2⟩ := byts_get h.by8 hj
  exact ⟨hj, e, e1, by unfold obit; rw [e2, Int.toNat_natCast]⟩

theorem vun_inner {w n : Nat} {b : List Int} (h : UB w n b) (rec1 : List Int → Int → Option (List Int × Bool)) {i : Nat} (hi : i < n) : ∀ (m f k : Nat) (out : List Int), k + m = w → m < f → out.length = n → out[i]? = some ((valB (obit b) (i * w) k : Nat) : Int) →
    column_unpack_l2 rec1 (w : Int) b (i : Int) f out (k : Int) = rec1 (out.set i ((valB (obit b) (i * w) w : Nat) : Int)) ((i + 1 : Nat) : Int) := by
  have hw := h.w62
  have hlen := h.len
  intro m
  induction m with
  | zero =>
    intro f k out hk hf ho hv
    obtain ⟨f, rfl⟩ : ∃ q, f = q + 1 := ⟨f - 1, by omega⟩
    rw [column_unpack_l2, show decide ((k : Int) < (w : Int)) = false by simp; omega, ift_false]
    unfold column_unpack_j1
    rw [wrap_succ hi (by omega)]
    have hkw : k = w := by omega
    subst hkw
    have : out.set i ((valB (obit b) (i * k) k : Nat) : Int) = out := List.ext_getElem? (fun j => by
        by_cases e : i = j
        · subst e; rw [List.getElem?_set_self (by omega)]; exact hv.symm
        · rw [List.getElem?_set_ne e])
    rw [this]
  | succ m ih =>
    intro f k out hk hf ho hv
    obtain ⟨f, rfl⟩ : ∃ q, f = q + 1 := ⟨f - 1, by omega⟩
    have hkw : k < w := by omega
    obtain ⟨hj, e, e1, e2⟩ := byte_at h hi hkw
    have hm : i * w ≤ 10000000 * 62 := Nat.mul_le_mul (by omega) hw
    have ek : IntKind.i64.wrap ((k : Int) + 1) = ((k + 1 : Nat) : Int) := by rw [w64 (by omega) (by omega)]; omega
    have hat : at? out (i : Int) = some ((valB (obit b) (i * w) k : Nat) : Int) := by unfold at?; simp [hv]
    have hm8 : (i * w + k) % 8 < 8 := Nat.mod_lt _ (by decide)
    have hvl := valB_lt (obit b) (i * w) k
    have hpk := pow_lt62 (show k < 62 by omega)
    rw [column_unpack_l2, show decide ((k : Int) < (w : Int)) = true by simp; omega, ift_true, hat, bnd_some', pos_eq hw (by omega) (by omega), pos_div (by omega), bnd_some', at_nat hj, bnd_some', pos_mod, bnd_some', grd_pos (by omega), min8 _ hm8, e1, and8 e ⟨_, hm8⟩, bnd_some', grd_pos (by omega), min64i k (by omega), ek, Int.toNat_natCast]
    simp only
    have hv' : ∀ y : Nat, y = (if e.val.testBit ((i * w + k) % 8) = true then 2 ^ k else 0) → IntKind.i64.wrap ((BitVec.ofInt (IntKind.i64).bits ((valB (obit b) (i * w) k : Nat) : Int) ||| BitVec.ofInt (IntKind.i64).bits (y : Int)).toNat : Int) = ((valB (obit b) (i * w) (k + 1) : Nat) : Int) := by
      rintro y rfl
      rw [ori _ _ (by omega) (by split <;> omega)]
      congr 1
      simp only [valB]
      rw [e2]
      split
      · have := Nat.two_pow_add_eq_or_of_lt hvl 1
        rw [Nat.mul_one] at this
        rw [Nat.or_comm, ← this, Nat.add_comm]
      · simp
    have fin : ∀ y : Int, y = (((if e.val.testBit ((i * w + k) % 8) = true then 2 ^ k else 0 : Nat)) : Int) → bnd (some y) (fun y5 => bnd (some (IntKind.i64.wrap ((BitVec.ofInt (IntKind.i64).bits ((valB (obit b) (i * w) k : Nat) : Int) ||| BitVec.ofInt (IntKind.i64).bits y5).toNat : Int))) fun y6 => column_unpack_l2 rec1 (w : Int) b (i : Int) f (out.set i y6) ((k + 1 : Nat) : Int)) = rec1 (out.set i ((valB (obit b) (i * w) w : Nat) : Int)) ((i + 1 : Nat) : Int) := by
      rintro y rfl
      rw [bnd_some', hv' _ rfl, bnd_some', ih f (k + 1) _ (by omega) (by omega) (by simpa using ho) (by rw [List.getElem?_set_self (by omega)]), List.set_set]
    by_cases hb : e.val.testBit ((i * w + k) % 8) = true
    · rw [if_pos hb]
      exact fin _ (by rw [if_pos hb, w64 (x := 1) (by decide) (by decide), Int.one_mul, show ((2 : Int) ^ k) = ((2 ^ k : Nat) : Int) by push_cast; rfl, w64 (by omega) (by omega)])
    · rw [if_neg hb]
      exact fin _ (by rw [if_neg hb, w64 (x := 0) (by decide) (by decide), Int.zero_mul, w64 (by decide) (by decide)]; rfl)

/-- the numbers of bytes -/
def nums (w n : Nat) (b : List Int) : List Int := (List.range n).map fun i => ((valB (obit b) (i * w) w : Nat) : Int)

theorem nums_set {w n : Nat} {b : List Int} {i : Nat} (hi : i < n) : ((nums w i b) ++ List.replicate (n - i) 0).set i ((valB (obit b) (i * w) w : Nat) : Int) = nums w (i + 1) b ++ List.replicate (n - (i + 1)) 0 := by
  have hl : (nums w i b).length = i := by simp [nums]
  rw [List.set_append_right _ _ (by omega), hl, Nat.sub_self, show n - i = (n - (i + 1)) + 1 by omega, List.replicate_succ, List.set_cons_zero]
  unfold nums
  rw [List.range_succ, List.map_append, List.append_assoc]; rfl

theorem vun_outer {w n : Nat} {b : List Int} (h : UB w n b) : ∀ (m f i : Nat), i + m = n → m < f →
    column_unpack_l1 (w : Int) (n : Int) b f (nums w i b ++ List.replicate (n - i) 0) (i : Int) = column_unpack_j2 (w : Int) b (nums w n b) := by
  have hw := h.w62
  intro m
  induction m with
  | zero =>
    intro f i hi hf
    obtain ⟨f, rfl⟩ : ∃ q, f = q + 1 := ⟨f - 1, by omega⟩
    have : i = n := by omega
    subst this
    rw [column_unpack_l1, show decide ((i : Int) < ((((i : Int)).toNat : Nat) : Int)) = false by simp, ift_false, Nat.sub_self]
    simp
  | succ m ih =>
    intro f i hi hf
    obtain ⟨f, rfl⟩ : ∃ q, f = q + 1 := ⟨f - 1, by omega⟩
    have hin : i < n := by omega
    have hl : (nums w i b).length = i := by simp [nums]
    rw [column_unpack_l1, show decide ((i : Int) < ((((n : Int)).toNat : Nat) : Int)) = true by simp; omega, ift_true]
    have h1 := vun_inner h (column_unpack_l1 (w : Int) (n : Int) b f) hin w BIG 0 (nums w i b ++ List.replicate (n - i) 0) (by omega) (by rw [big_val]; omega) (by simp [hl]; omega) (by
      rw [List.getElem?_append_right (by omega), hl, Nat.sub_self, List.getElem?_replicate, if_pos (by omega)]; rfl)
    rw [show ((0 : Nat) : Int) = 0 from rfl, nums_set hin] at h1
    rw [h1]
    exact ih f (i + 1) (by omega) (by omega)

theorem nums_fits {w n : Nat} {b : List Int} (h : UB w n b) : Fits w (nums w n b) := by
  refine ⟨h.w62, by simp [nums]; exact h.len, fun e he => ?_⟩
  simp only [nums, List.mem_map] at he
  obtain ⟨i, _, rfl⟩ := he
  have := valB_lt (obit b) (i * w) w
  have := pow_le62 h.w62
  omega

/-! ### Pack -/

def badN (w : Nat) (l : List Int) (i : Nat) : Bool := decide (l.getD i 0 < 0) || decide ((2 ^ w : Nat) ≤ l.getD i 0)

theorem bad_at {w : Nat} {l : List Int} {i : Nat} (hi : i < l.length) : badN w l i = (decide (l[i] < 0) || decide (((2 ^ w : Nat) : Int) ≤ l[i])) := by
  unfold badN; simp [List.getD, List.getElem?_eq_getElem hi]

theorem shl1 {w : Nat} (hw : w ≤ 62) : IntKind.i64.wrap ((1 : Int) * 2 ^ (min ((w : Int)).toNat (IntKind.i64).bits)) = ((2 ^ w : Nat) : Int) := by
  have := pow_le62 hw
  rw [min64i w (by omega), Int.one_mul, show ((2 : Int) ^ w) = ((2 ^ w : Nat) : Int) by push_cast; rfl]
  generalize 2 ^ w = q at *
  rw [w64 (by omega) (by omega)]

theorem pred_eq {w : Nat} (hw : w ≤ 62) (e : Int) : column_Pack_1_s e (w : Int) = some (decide (e < 0) || decide (((2 ^ w : Nat) : Int) ≤ e)) := by
  unfold column_Pack_1_s column_Pack_1_s_j1
  by_cases h : e < 0
  · simp [h, ift]
  · rw [show decide (e < 0) = false by simpa using h, ift_false, grd_pos (by omega), shl1 hw, bnd_some', Bool.false_or]

theorem contains_eq {w : Nat} (hw : w ≤ 62) {l : List Int} (hl : l.length < 1000000000) : slices_ContainsFunc_int_int_of_column_Pack_1 l (w : Int) = some (first (badN w l) 0 l.length).isSome := by
  unfold slices_ContainsFunc_int_int_of_column_Pack_1 slices_IndexFunc_int_int_of_column_Pack_1
  have h := search (f := fun k i => slices_IndexFunc_int_int_of_column_Pack_1_l1 l (w : Int) k (i : Int)) (n := l.length) (P := badN w l) (A := fun i => some (i : Int)) (B := some (-1))
    (fun k i hi => by
      show slices_IndexFunc_int_int_of_column_Pack_1_l1 l (w : Int) (k + 1) (i : Int) = _
      rw [slices_IndexFunc_int_int_of_column_Pack_1_l1, dec_lt hi, ift_true, at_nat hi, bnd_some', pred_eq hw, bnd_some', bad_at hi, wrap_succ hi hl, ift_ite])
    (fun k => by
      show slices_IndexFunc_int_int_of_column_Pack_1_l1 l (w : Int) (k + 1) (l.length : Int) = _
      rw [slices_IndexFunc_int_int_of_column_Pack_1_l1, show decide ((l.length : Int) < (l.length : Int)) = false by simp, ift_false]; rfl)
    BIG 0 (by omega) (by rw [big_val]; omega)
  have h' : slices_IndexFunc_int_int_of_column_Pack_1_l1 l (w : Int) BIG 0 = (first (badN w l) 0 l.length).elim (some (-1)) (fun i => some (i : Int)) := h
  rw [h']
  cases first (badN w l) 0 l.length with
  | none => rfl
  | some i => simp [Option.elim, bnd_some']

theorem ints_refl (l : List Int) (hl : l.length < 1000000000) : law2_ints l l = some true := by
  unfold law2_ints
  rw [show ((l.length : Int) != (l.length : Int)) = false by simp, ift_false]
  have go : ∀ (m f i : Nat), i + m = l.length → m < f → law2_ints_l1 l l f (i : Int) = some true := by
    intro m
    induction m with
    | zero =>
      intro f i hi hf
      obtain ⟨f, rfl⟩ : ∃ q, f = q + 1 := ⟨f - 1, by omega⟩
      rw [law2_ints_l1, show decide ((i : Int) < (l.length : Int)) = false by simp; omega, ift_false]; rfl
    | succ m ih =>
      intro f i hi hf
      obtain ⟨f, rfl⟩ : ∃ q, f = q + 1 := ⟨f - 1, by omega⟩
      have hil : i < l.length := by omega
      rw [law2_ints_l1, dec_lt hil, ift_true, at_nat hil, bnd_some', bnd_some', show (l[i] != l[i]) = false by simp, ift_false, wrap_succ hil hl]
      exact ih f (i + 1) (by omega) (by omega)
  exact go l.length BIG 0 (by omega) (by rw [big_val]; omega)

end Go.Proofs.Ytmaemlebpjnmoaa
namespace Go.Proofs.Ytmaemlebpjnmoaa
open Go Go.SX Go.SX.Cal
set_option linter.unusedVariables false
set_option linter.unusedSimpArgs false

/-- a signed number -/
def sg (n : Int) : List Int := vi (zz n)

theorem sg_len {n : Int} (h : -4611686018427387903 ≤ n ∧ n ≤ 4611686018427387903) : (sg n).length ≤ 10 := by
  have : zz n < 128 ^ 10 := Nat.lt_trans (zz_lt (by omega)) (by decide)
  exact vi_len 9 _ this

theorem vi_len10 {n : Nat} (h : n < 18446744073709551616) : (vi n).length ≤ 10 := vi_len 9 n (Nat.lt_trans h (by decide))

/-- numbers in their range -/
def InR (l : List Int) : Prop := ∀ x ∈ l, -2000000000000000000 ≤ x ∧ x ≤ 2000000000000000000

theorem InR.get {l : List Int} (h : InR l) {i : Nat} (hi : i < l.length) : -2000000000000000000 ≤ l[i] ∧ l[i] ≤ 2000000000000000000 := h _ (List.getElem_mem hi)

def eP (l : List Int) : List Int := l.flatMap sg

theorem eP_cons (n : Int) (t : List Int) : eP (n :: t) = sg n ++ eP t := by simp [eP]

theorem drop_at {l : List Int} {i : Nat} (hi : i < l.length) : l.drop i = l[i] :: l.drop (i + 1) := List.drop_eq_getElem_cons hi

theorem dec_ge {i n : Nat} (h : ¬ i < n) : decide ((i : Int) < (n : Int)) = false := by simp; omega

theorem fuel {m f : Nat} (h : m < f) : ∃ q, f = q + 1 := ⟨f - 1, by omega⟩

theorem c_plain {l : List Int} (hl : l.length ≤ 10000000) (hr : InR l) : ∀ (m f i : Nat) (b : List Int), i + m = l.length → m < f → b.length + 10 * m ≤ 4000000000 →
    column_each_of_column_numbers_2_l1 l l f b (i : Int) = some (b ++ eP (l.drop i)) := by
  intro m
  induction m with
  | zero =>
    intro f i b hi hf hb
    obtain ⟨f, rfl⟩ := fuel hf
    rw [column_each_of_column_numbers_2_l1, dec_ge (by omega), iftF, List.drop_of_length_le (by omega)]
    simp [column_each_of_column_numbers_2_j1, eP]
  | succ m ih =>
    intro f i b hi hf hb
    obtain ⟨f, rfl⟩ := fuel hf
    have hil : i < l.length := by omega
    have hx := hr.get hil
    have h10 := sg_len (n := l[i]) (by omega)
    rw [column_each_of_column_numbers_2_l1, dec_lt hil, iftT]
    unfold column_numbers_2_s
    rw [at_nat hil, bnd_s, col_signed (by omega) (by omega), bnd_s, bnd_s, wrap_succ hil (by omega)]
    rw [ih f (i + 1) _ (by omega) (by omega) (by rw [List.length_append]; unfold sg at h10; omega), drop_at hil, eP_cons, List.append_assoc]; rfl

/-! ### differences -/

def eD : Int → List Int → List Int
  | _, [] => []
  | p, n :: t => sg (n - p) ++ eD n t

def pv (l : List Int) (i : Nat) : Int := if i = 0 then 0 else l.getD (i - 1) 0

theorem pv_succ {l : List Int} {i : Nat} (hi : i < l.length) : pv l (i + 1) = l[i] := by simp [pv, List.getD, hi]

theorem c_delta {l : List Int} (hl : l.length ≤ 10000000) (hr : InR l) : ∀ (m f i : Nat) (b : List Int), i + m = l.length → m < f → b.length + 10 * m ≤ 4000000000 →
    column_each_of_column_delta_1_l1 l l f b (i : Int) = some (b ++ eD (pv l i) (l.drop i)) := by
  intro m
  induction m with
  | zero =>
    intro f i b hi hf hb
    obtain ⟨f, rfl⟩ := fuel hf
    rw [column_each_of_column_delta_1_l1, dec_ge (by omega), iftF, List.drop_of_length_le (by omega)]
    simp [column_each_of_column_delta_1_j1, eD]
  | succ m ih =>
    intro f i b hi hf hb
    obtain ⟨f, rfl⟩ := fuel hf
    have hil : i < l.length := by omega
    have hx := hr.get hil
    have step : column_delta_1_s (i : Int) l b = some ((), b ++ sg (l[i] - pv l i)) := by
      unfold column_delta_1_s
      by_cases h0 : i = 0
      · subst h0
        rw [show (((0 : Nat) : Int) == 0) = true from rfl, iftT, show (0 : Int) = ((0 : Nat) : Int) from rfl, at_nat hil, bnd_s, col_signed (by omega) (by omega), bnd_s]
        simp [pv, sg]
      · have hi1 : i - 1 < l.length := by omega
        have hy := hr.get hi1
        rw [show (((i : Nat) : Int) == 0) = false by simp; omega, iftF, at_nat hil, bnd_s, w64 (x := (i : Int) - 1) (by omega) (by omega), show (i : Int) - 1 = ((i - 1 : Nat) : Int) by omega, at_nat hi1, bnd_s, w64 (x := l[i] - l[i - 1]) (by omega) (by omega),
          col_signed (by omega) (by omega), bnd_s]
        simp [pv, h0, sg, List.getD, hi1]
    have hpv : -2000000000000000000 ≤ pv l i ∧ pv l i ≤ 2000000000000000000 := by
      by_cases h0 : i = 0
      · subst h0; simp [pv]
      · have hi1 : i - 1 < l.length := by omega
        have hy := hr.get hi1
        simp only [pv, h0, if_false, List.getD, List.getElem?_eq_getElem hi1, Option.getD_some]
        exact hy
    have h10 := sg_len (n := l[i] - pv l i) (by omega)
    rw [column_each_of_column_delta_1_l1, dec_lt hil, iftT, step, bnd_s, wrap_succ hil (by omega)]
    rw [ih f (i + 1) _ (by omega) (by omega) (by rw [List.length_append]; omega), drop_at hil, pv_succ hil, List.append_assoc]; rfl

/-! ### runs -/

def eR : List Int → List Int
  | [] => []
  | n :: t => vi (1 + (t.takeWhile (· == n)).length) ++ sg n ++ eR (t.dropWhile (· == n))
termination_by l => l.length
decreasing_by
  have := (List.dropWhile_sublist (fun x => x == n) (l := t)).length_le
  simp; omega

theorem eR_cons (n : Int) (t : List Int) : eR (n :: t) = vi (1 + (t.takeWhile (· == n)).length) ++ sg n ++ eR (t.dropWhile (· == n)) := by rw [eR]

theorem drop_tw (p : Int → Bool) : ∀ l : List Int, l.drop (l.takeWhile p).length = l.dropWhile p
  | [] => rfl
  | x :: t => by
    cases h : p x with
    | true => simp [List.takeWhile_cons, List.dropWhile_cons, h, drop_tw p t]
    | false => simp [List.takeWhile_cons, List.dropWhile_cons, h]

theorem tw_le (p : Int → Bool) (l : List Int) : (l.takeWhile p).length ≤ l.length := by
  induction l with
  | nil => simp
  | cons x t ih =>
    cases h : p x with
    | true => simp [List.takeWhile_cons, h]; exact ih
    | false => simp [List.takeWhile_cons, h]

theorem c_run {l : List Int} (hl : l.length ≤ 10000000) (rec1 : List Int → Int → Option (List Int)) (b : List Int) {i : Nat} (hi : i < l.length) : ∀ (m f j : Nat), j + m = l.length → m < f →
    column_runs_l2 rec1 l b (i : Int) f (j : Int) = column_runs_j2 rec1 l b (i : Int) ((j + ((l.drop j).takeWhile (· == l[i])).length : Nat) : Int) := by
  intro m
  induction m with
  | zero =>
    intro f j hj hf
    obtain ⟨f, rfl⟩ := fuel hf
    rw [column_runs_l2, dec_ge (by omega), iftF, List.drop_of_length_le (by omega)]
    simp [column_runs_j1, iftF]
  | succ m ih =>
    intro f j hj hf
    obtain ⟨f, rfl⟩ := fuel hf
    have hjl : j < l.length := by omega
    rw [column_runs_l2, dec_lt hjl, iftT, at_nat hjl, bnd_s, at_nat hi, bnd_s, drop_at hjl]
    unfold column_runs_j1
    by_cases h : l[j] = l[i]
    · rw [show (l[j] == l[i]) = true by simp [h], iftT, wrap_succ hjl (by omega), ih f (j + 1) (by omega) (by omega), List.takeWhile_cons, show (l[j] == l[i]) = true by simp [h], if_pos rfl, List.length_cons, show j + 1 + ((l.drop (j + 1)).takeWhile (· == l[i])).length = j + (((l.drop (j + 1)).takeWhile (· == l[i])).length + 1) by omega]
    · rw [show (l[j] == l[i]) = false by simp [h], iftF, List.takeWhile_cons, show (l[j] == l[i]) = false by simp [h], if_neg (by simp), List.length_nil, Nat.add_zero]

theorem c_runs {l : List Int} (hl : l.length ≤ 10000000) (hr : InR l) : ∀ (m f i : Nat) (b : List Int), i + m = l.length → m < f → b.length + 20 * m ≤ 4000000000 →
    column_runs_l1 l f b (i : Int) = some (b ++ eR (l.drop i)) := by
  intro m
  induction m using Nat.strongRecOn with
  | ind m ih =>
    intro f i b hi hf hb
    obtain ⟨f, rfl⟩ := fuel hf
    by_cases hil : i < l.length
    · have hx := hr.get hil
      have h10 := sg_len (n := l[i]) (by omega)
      have htw := tw_le (· == l[i]) (l.drop (i + 1))
      rw [List.length_drop] at htw
      have hdw := drop_tw (· == l[i]) (l.drop (i + 1))
      rw [column_runs_l1, dec_lt hil, iftT, c_run hl _ b hil m BIG i hi (by rw [bigv]; omega), drop_at hil, List.takeWhile_cons, show (l[i] == l[i]) = true by simp, if_pos rfl, List.length_cons, eR_cons]
      generalize hT : ((l.drop (i + 1)).takeWhile (· == l[i])).length = T at *
      rw [List.drop_drop] at hdw
      have hv := vi_len10 (n := 1 + T) (by omega)
      unfold column_runs_j2
      rw [w64 (x := ((i + (T + 1) : Nat) : Int) - (i : Int)) (by omega) (by omega), u64w, show (((i + (T + 1) : Nat) : Int) - (i : Int)) % 18446744073709551616 = ((1 + T : Nat) : Int) by omega, col_number (by omega) (by omega), bnd_s, at_nat hil, bnd_s,
        col_signed (by omega) (by rw [List.length_append]; omega), bnd_s]
      rw [ih (m - (T + 1)) (by omega) f (i + (T + 1)) _ (by omega) (by omega) (by rw [List.length_append, List.length_append]; unfold sg at h10; omega), ← hdw, show i + 1 + T = i + (T + 1) by omega]
      simp only [List.append_assoc]; rfl
    · rw [column_runs_l1, dec_ge hil, iftF, List.drop_of_length_le (by omega)]
      simp [column_runs_j3, eR]

end Go.Proofs.Ytmaemlebpjnmoaa
namespace Go.Proofs.Ytmaemlebpjnmoaa
open Go Go.SX Go.SX.Cal
set_option linter.unusedVariables false
set_option linter.unusedSimpArgs false

theorem packs_inner {w : Nat} {l : List Int} (hF : Fits w l) {N : Nat} (hN : l.length * w ≤ 8 * N) (rec1 : List Int → Int → Option (List Int × List Int)) {i : Nat} (hi : i < l.length) : ∀ (m f k : Nat) (out : List Int), k + m = w → m < f → Inv (srcL w l) N out (i * w + k) →
    ∃ out', column_pack_s_l2 rec1 (w : Int) (i : Int) l[i] f out (k : Int) = rec1 out' ((i + 1 : Nat) : Int) ∧ Inv (srcL w l) N out' ((i + 1) * w) := by
  have hw := hF.w62
  have hlen := hF.len
  intro m
  induction m with
  | zero =>
    intro f k out hk hf hI
    obtain ⟨f, rfl⟩ : ∃ q, f = q + 1 := ⟨f - 1, by omega⟩
    rw [column_pack_s_l2, show decide ((k : Int) < (w : Int)) = false by simp; omega, ift_false]
    unfold column_pack_s_j2
    rw [wrap_succ hi (by omega)]
    refine ⟨out, rfl, ?_⟩
    rw [Nat.add_mul, Nat.one_mul, show i * w + w = i * w + k by omega]
    exact hI
  | succ m ih =>
    intro f k out hk hf hI
    obtain ⟨f, rfl⟩ : ∃ q, f = q + 1 := ⟨f - 1, by omega⟩
    have he := hF.ok l[i] (List.getElem_mem hi)
    obtain ⟨x, hx⟩ : ∃ x : Nat, l[i] = (x : Int) := ⟨l[i].toNat, by omega⟩
    have hsrc := src_at (w := w) hi (show k < w by omega)
    have hP : i * w + k < 8 * N := by
      have : (i + 1) * w ≤ l.length * w := Nat.mul_le_mul_right _ hi
      rw [Nat.add_mul, Nat.one_mul] at this
      omega
    have hm : i * w ≤ 10000000 * 62 := Nat.mul_le_mul (by omega) hw
    rw [hx, Int.toNat_natCast] at hsrc
    have hxk : x / 2 ^ k < 9223372036854775808 := Nat.lt_of_le_of_lt (Nat.div_le_self _ _) (by omega)
    have ek : IntKind.i64.wrap ((k : Int) + 1) = ((k + 1 : Nat) : Int) := by rw [w64 (by omega) (by omega)]; omega
    rw [column_pack_s_l2, show decide ((k : Int) < (w : Int)) = true by simp; omega, ift_true, grd_pos (by omega), min64i k (by omega), hx, fdn, andi _ hxk, bnd_some', bit_mod]
    by_cases hb : x.testBit k = true
    · rw [if_pos hb, show ((1 : Int) == 1) = true from rfl, ift_true, pos_eq hw (by omega) (by omega), pos_div (by omega), bnd_some', pos_mod]
      have hj : (i * w + k) / 8 < out.length := by rw [hI.len]; omega
      obtain ⟨e, e1, e2⟩ := byts_get hI.by8 hj
      have hm8 : (i * w + k) % 8 < 8 := Nat.mod_lt _ (by decide)
      rw [at_nat hj, bnd_some', bnd_some', grd_pos (by omega), min8 _ hm8, e1, or8 e ⟨_, hm8⟩, bnd_some', Int.toNat_natCast]
      have hI' := inv_set hI hP (by rw [hsrc, hb]) e e2
      unfold column_pack_s_j1
      rw [ek]
      have := ih f (k + 1) _ (by omega) (by omega) hI'
      rw [hx] at this
      exact this
    · rw [if_neg hb, show ((0 : Int) == 1) = false from rfl, ift_false]
      have hI' := inv_skip hI (by rw [hsrc]; simpa using hb)
      unfold column_pack_s_j1
      rw [ek]
      have := ih f (k + 1) _ (by omega) (by omega) hI'
      rw [hx] at this
      exact this

theorem packs_outer {w : Nat} {l : List Int} (hF : Fits w l) {N : Nat} (hN : l.length * w ≤ 8 * N) : ∀ (m f i : Nat) (out : List Int), i + m = l.length → m < f → Inv (srcL w l) N out (i * w) →
    ∃ out', column_pack_s_l1 (w : Int) l f out (i : Int) = some (out', l) ∧ Inv (srcL w l) N out' (l.length * w) := by
  have hw := hF.w62
  intro m
  induction m with
  | zero =>
    intro f i out hi hf hI
    obtain ⟨f, rfl⟩ : ∃ q, f = q + 1 := ⟨f - 1, by omega⟩
    rw [column_pack_s_l1, show decide ((i : Int) < (l.length : Int)) = false by simp; omega, ift_false]
    exact ⟨out, rfl, by rw [show l.length = i by omega]; exact hI⟩
  | succ m ih =>
    intro f i out hi hf hI
    obtain ⟨f, rfl⟩ : ∃ q, f = q + 1 := ⟨f - 1, by omega⟩
    have hil : i < l.length := by omega
    obtain ⟨out1, h1, h2⟩ := packs_inner hF hN (column_pack_s_l1 (w : Int) l f) hil w BIG 0 out (by omega) (by rw [big_val]; omega) (by simpa using hI)
    rw [show ((0 : Nat) : Int) = 0 from rfl] at h1
    rw [column_pack_s_l1, dec_lt hil, ift_true, at_nat hil, bnd_some', h1]
    exact ih f (i + 1) out1 (by omega) (by omega) h2

theorem vpacks {w : Nat} {l : List Int} (hF : Fits w l) : ∃ out, column_pack_s (w : Int) l = some (out, l) ∧ Inv (srcL w l) ((l.length * w + 7) / 8) out (l.length * w) := by
  have hw := hF.w62
  have hm : l.length * w ≤ 10000000 * 62 := Nat.mul_le_mul hF.len hw
  have hs := size_eq hw hF.len
  have hlen := hF.len
  unfold column_pack_s
  rw [bnd_some', hs, grd_pos (by omega), Int.toNat_natCast]
  exact packs_outer hF (by omega) l.length BIG 0 _ (by omega) (by rw [big_val]; omega) (by rw [Nat.zero_mul]; exact inv_start _ _)


/-- the bytes of packed numbers -/
def pk (w : Nat) (l : List Int) : List Int := (column_pack (w : Int) l).getD []

theorem pk_c {w : Nat} {l : List Int} (hF : Fits w l) : column_pack (w : Int) l = some (pk w l) := by
  obtain ⟨out, h, _⟩ := vpack hF
  unfold pk; rw [h]; rfl

theorem pk_inv {w : Nat} {l : List Int} (hF : Fits w l) : Inv (srcL w l) ((l.length * w + 7) / 8) (pk w l) (l.length * w) := by
  obtain ⟨out, h, hi⟩ := vpack hF
  unfold pk; rw [h]; exact hi

theorem pk_s {w : Nat} {l : List Int} (hF : Fits w l) : column_pack_s (w : Int) l = some (pk w l, l) := by
  obtain ⟨out, h, hi⟩ := vpacks hF
  rw [h, inv_same hi (pk_inv hF)]

theorem pk_len {w : Nat} {l : List Int} (hF : Fits w l) : (pk w l).length = (l.length * w + 7) / 8 := (pk_inv hF).len

theorem pk_ub {w : Nat} {l : List Int} (hF : Fits w l) : UB w l.length (pk w l) := ⟨hF.w62, hF.len, (pk_inv hF).by8, pk_len hF⟩

theorem valB_test (src : Nat → Bool) (x base : Nat) : ∀ k, (∀ j, j < k → src (base + j) = x.testBit j) → valB src base k = x % 2 ^ k
  | 0, _ => by simp [valB, Nat.mod_one]
  | k + 1, h => by
    have e := h k (by omega)
    rw [valB, valB_test src x base k (fun j hj => h j (by omega)), e, Nat.pow_succ, Nat.mod_mul, Nat.testBit_eq_decide_div_mod_eq]
    have := Nat.mod_two_eq_zero_or_one (x / 2 ^ k)
    by_cases hb : x / 2 ^ k % 2 = 1
    · simp [hb]
    · rw [show x / 2 ^ k % 2 = 0 by omega]; simp

/-- what was packed comes back -/
theorem nums_pk {w : Nat} {l : List Int} (hF : Fits w l) (hlt : ∀ e ∈ l, e < ((2 ^ w : Nat) : Int)) : nums w l.length (pk w l) = l := by
  have hI := pk_inv hF
  refine List.ext_getElem (by simp [nums]) fun i h1 h2 => ?_
  rw [show (nums w l.length (pk w l))[i] = ((valB (obit (pk w l)) (i * w) w : Nat) : Int) by simp [nums]]
  have he := hF.ok l[i] (List.getElem_mem h2)
  have hv := valB_test (obit (pk w l)) l[i].toNat (i * w) w (fun j hj => by
    have hp := pos_lt (n := l.length) h2 hj
    rw [hI.bit _ (by omega), decide_eq_true hp, Bool.true_and, src_at h2 hj])
  have h3 := hlt l[i] (List.getElem_mem h2)
  generalize 2 ^ w = q at hv h3
  rw [hv, Nat.mod_eq_of_lt (by omega)]
  omega

theorem unpack_c {w n : Nat} {b : List Int} (h : UB w n b) : column_unpack (w : Int) (n : Int) b = some (nums w n b, (strOfNums (pk w (nums w n b))).toList == (strOfNums b).toList) := by
  have hn := h.len
  have e1 : column_unpack_l1 (w : Int) (n : Int) b BIG (List.replicate n 0) 0 = column_unpack_j2 (w : Int) b (nums w n b) := vun_outer h n BIG 0 (by omega) (by rw [big_val]; omega)
  unfold column_unpack
  rw [size_eq h.w62 hn, bnd_some', show ((b.length : Int) != (((n * w + 7) / 8 : Nat) : Int)) = false by rw [h.bl]; simp, ift_false, grd_pos (by omega), Int.toNat_natCast, e1]
  unfold column_unpack_j2
  rw [pk_s (nums_fits h), bnd_some', grd_pos rfl]
  rfl

theorem unpack_bad {w n : Nat} {b : List Int} (hw : w ≤ 62) (hn : n ≤ 10000000) (h : b.length ≠ (n * w + 7) / 8) : column_unpack (w : Int) (n : Int) b = some ([], false) := by
  unfold column_unpack
  rw [size_eq hw hn, bnd_some', show ((b.length : Int) != (((n * w + 7) / 8 : Nat) : Int)) = true by simp; omega, ift_true]

end Go.Proofs.Ytmaemlebpjnmoaa
namespace Go.Proofs.Ytmaemlebpjnmoaa
open Go Go.SX Go.SX.Cal
set_option linter.unusedVariables false
set_option linter.unusedSimpArgs false

def mnf : Int → List Int → Int
  | x, [] => x
  | x, y :: t => mnf (if y < x then y else x) t
def mxf : Int → List Int → Int
  | x, [] => x
  | x, y :: t => mxf (if y > x then y else x) t

theorem mnf_le : ∀ (t : List Int) (x : Int), mnf x t ≤ x ∧ ∀ y ∈ t, mnf x t ≤ y
  | [], x => by simp [mnf]
  | y :: t, x => by
    have := mnf_le t (if y < x then y else x)
    refine ⟨?_, fun z hz => ?_⟩
    · simp only [mnf]
      by_cases e : y < x
      · rw [if_pos e] at this ⊢; omega
      · rw [if_neg e] at this ⊢; omega
    · simp only [mnf]
      rcases List.mem_cons.1 hz with h | hz
      · rw [h]
        by_cases e : y < x
        · rw [if_pos e] at this ⊢; omega
        · rw [if_neg e] at this ⊢; omega
      · exact this.2 z hz
theorem mxf_ge : ∀ (t : List Int) (x : Int), x ≤ mxf x t ∧ ∀ y ∈ t, y ≤ mxf x t
  | [], x => by simp [mxf]
  | y :: t, x => by
    have := mxf_ge t (if y > x then y else x)
    refine ⟨?_, fun z hz => ?_⟩
    · simp only [mxf]
      by_cases e : y > x
      · rw [if_pos e] at this ⊢; omega
      · rw [if_neg e] at this ⊢; omega
    · simp only [mxf]
      rcases List.mem_cons.1 hz with h | hz
      · rw [h]
        by_cases e : y > x
        · rw [if_pos e] at this ⊢; omega
        · rw [if_neg e] at this ⊢; omega
      · exact this.2 z hz
theorem mnf_mem : ∀ (t : List Int) (x : Int), mnf x t = x ∨ mnf x t ∈ t
  | [], x => by simp [mnf]
  | y :: t, x => by
    simp only [mnf]
    rcases mnf_mem t (if y < x then y else x) with h | h
    · by_cases e : y < x
      · rw [if_pos e] at h ⊢; exact .inr (by rw [h]; exact List.mem_cons_self ..)
      · rw [if_neg e] at h ⊢; exact .inl h
    · exact .inr (List.mem_cons_of_mem _ h)
theorem mxf_mem : ∀ (t : List Int) (x : Int), mxf x t = x ∨ mxf x t ∈ t
  | [], x => by simp [mxf]
  | y :: t, x => by
    simp only [mxf]
    rcases mxf_mem t (if y > x then y else x) with h | h
    · by_cases e : y > x
      · rw [if_pos e] at h ⊢; exact .inr (by rw [h]; exact List.mem_cons_self ..)
      · rw [if_neg e] at h ⊢; exact .inl h
    · exact .inr (List.mem_cons_of_mem _ h)

theorem c_min {l : List Int} (hl : l.length ≤ 10000000) : ∀ (m f i : Nat) (x : Int), i + m = l.length → m < f → slices_Min_int_int_l1 l f x (i : Int) = some (mnf x (l.drop i)) := by
  intro m
  induction m with
  | zero =>
    intro f i x hi hf
    obtain ⟨f, rfl⟩ := fuel hf
    rw [slices_Min_int_int_l1, dec_ge (by omega), iftF, List.drop_of_length_le (by omega)]; rfl
  | succ m ih =>
    intro f i x hi hf
    obtain ⟨f, rfl⟩ := fuel hf
    have hil : i < l.length := by omega
    rw [slices_Min_int_int_l1, dec_lt hil, iftT, at_nat hil, bnd_s, wrap_succ hil (by omega), ih f (i + 1) _ (by omega) (by omega), drop_at hil, mnf]
theorem c_max {l : List Int} (hl : l.length ≤ 10000000) : ∀ (m f i : Nat) (x : Int), i + m = l.length → m < f → slices_Max_int_int_l1 l f x (i : Int) = some (mxf x (l.drop i)) := by
  intro m
  induction m with
  | zero =>
    intro f i x hi hf
    obtain ⟨f, rfl⟩ := fuel hf
    rw [slices_Max_int_int_l1, dec_ge (by omega), iftF, List.drop_of_length_le (by omega)]; rfl
  | succ m ih =>
    intro f i x hi hf
    obtain ⟨f, rfl⟩ := fuel hf
    have hil : i < l.length := by omega
    rw [slices_Max_int_int_l1, dec_lt hil, iftT, at_nat hil, bnd_s, wrap_succ hil (by omega), ih f (i + 1) _ (by omega) (by omega), drop_at hil, mxf]
/-! ### how many bits -/

/-- w is the least number of bits for d -/
structure BL (d w : Nat) : Prop where
  lt : d < 2 ^ w
  le : w = 0 ∨ 2 ^ (w - 1) ≤ d

theorem BL.uniq {d v w : Nat} (h : BL d v) (k : BL d w) : v = w := by
  have key : ∀ {v w : Nat}, BL d v → BL d w → ¬ v < w := by
    intro v w h k hlt
    have h1 : 2 ^ v ≤ 2 ^ (w - 1) := Nat.pow_le_pow_right (by decide) (by omega)
    have := h.lt
    rcases k.le with e | e <;> omega
  have := key h k
  have := key k h
  omega

def bl (d : Nat) : Nat := if d = 0 then 0 else Nat.log2 d + 1

theorem bl_BL (d : Nat) : BL d (bl d) := by
  unfold bl
  by_cases h : d = 0
  · subst h; exact ⟨by decide, .inl rfl⟩
  · rw [if_neg h]
    exact ⟨Nat.lt_log2_self, .inr (by rw [Nat.add_sub_cancel]; exact Nat.log2_self_le h)⟩

theorem BL.shift {d v k : Nat} (hd : 2 ^ k ≤ d) (h : BL (d / 2 ^ k) v) : BL d (v + k) := by
  have hk : 0 < 2 ^ k := Nat.pow_pos (by decide)
  have hq : 1 ≤ d / 2 ^ k := (Nat.one_le_div_iff hk).2 hd
  refine ⟨?_, .inr ?_⟩
  · rw [Nat.pow_add]; exact (Nat.div_lt_iff_lt_mul hk).1 h.lt
  · rcases h.le with e | e
    · subst e; have := h.lt; simp at this; omega
    · have hv : v ≠ 0 := by rintro rfl; have := h.lt; simp at this; omega
      rw [show v + k - 1 = (v - 1) + k by omega, Nat.pow_add]
      exact (Nat.le_div_iff_mul_le hk).1 e

theorem bl_shift {d k : Nat} (h : 2 ^ k ≤ d) : bl d = bl (d / 2 ^ k) + k := (bl_BL d).uniq ((bl_BL _).shift h)

theorem len_tab : ∀ d : Fin 256, ∀ a : Fin 8, math_bits_Len64_j3 (d.val : Int) ((8 * a.val : Nat) : Int) = some ((bl d.val + 8 * a.val : Nat) : Int) := by decide +kernel

theorem len_j3 {d a : Nat} (hd : d < 256) (ha : a < 8) : math_bits_Len64_j3 (d : Int) ((8 * a : Nat) : Int) = some ((bl d + 8 * a : Nat) : Int) := len_tab ⟨d, hd⟩ ⟨a, ha⟩

theorem fdu (d k : Nat) (hk : k < 64) : ((d : Int).fdiv (2 ^ (min ((k : Int)).toNat (IntKind.u64).bits))) = ((d / 2 ^ k : Nat) : Int) := by
  rw [show min ((k : Int)).toNat (IntKind.u64).bits = k by show min ((k : Int)).toNat 64 = k; omega, fdn]

theorem len_j2 {d a : Nat} (hd : d < 65536) (ha : a < 7) : math_bits_Len64_j2 (d : Int) ((8 * a : Nat) : Int) = some ((bl d + 8 * a : Nat) : Int) := by
  unfold math_bits_Len64_j2
  by_cases h : 256 ≤ d
  · have := fdu d 8 (by decide)
    rw [decide_eq_true (by omega), iftT, show ((8 : Int)) = ((8 : Nat) : Int) from rfl, this, w64 (by omega) (by omega), show ((8 * a : Nat) : Int) + ((8 : Nat) : Int) = ((8 * (a + 1) : Nat) : Int) by omega, len_j3 (by omega) (by omega), bl_shift (k := 8) h]
    congr 2; omega
  · rw [decide_eq_false (by omega), iftF, len_j3 (by omega) (by omega)]

theorem len_j1 {d a : Nat} (hd : d < 4294967296) (ha : a < 5) : math_bits_Len64_j1 (d : Int) ((8 * a : Nat) : Int) = some ((bl d + 8 * a : Nat) : Int) := by
  unfold math_bits_Len64_j1
  by_cases h : 65536 ≤ d
  · have := fdu d 16 (by decide)
    rw [decide_eq_true (by omega), iftT, show ((16 : Int)) = ((16 : Nat) : Int) from rfl, this, w64 (by omega) (by omega), show ((8 * a : Nat) : Int) + ((16 : Nat) : Int) = ((8 * (a + 2) : Nat) : Int) by omega, len_j2 (by omega) (by omega), bl_shift (k := 16) h]
    congr 2; omega
  · rw [decide_eq_false (by omega), iftF, len_j2 (by omega) (by omega)]

theorem len64 {d : Nat} (hd : d < 18446744073709551616) : math_bits_Len64 (d : Int) = some ((bl d : Nat) : Int) := by
  unfold math_bits_Len64
  by_cases h : 4294967296 ≤ d
  · have := fdu d 32 (by decide)
    rw [decide_eq_true (by omega), iftT, show ((32 : Int)) = ((32 : Nat) : Int) from rfl, this, show ((32 : Nat) : Int) = ((8 * 4 : Nat) : Int) from rfl, len_j1 (by omega) (by omega), bl_shift (k := 32) h]
  · rw [decide_eq_false (by omega), iftF, show (0 : Int) = ((8 * 0 : Nat) : Int) from rfl, len_j1 (by omega) (by omega)]
    rfl

theorem bl_le {d : Nat} (h : d < 4611686018427387904) : bl d ≤ 62 := by
  rcases (bl_BL d).le with e | e
  · omega
  · have h3 : 2 ^ (bl d - 1) < 2 ^ 62 := Nat.lt_of_le_of_lt e h
    have := (Nat.pow_lt_pow_iff_right (by decide : 1 < 2)).1 h3
    omega

/-! ### the frame -/

/-- what is written of a list that is not empty -/
def eF : List Int → List Int
  | [] => []
  | x :: t =>
    let m := mnf x t
    let w := bl (mxf x t - m).toNat
    sg m ++ [(w : Int)] ++ pk w ((x :: t).map (· - m))

/-- what a frame needs -/
structure FrOk (l : List Int) (m : Int) (w : Nat) : Prop where
  lo : ∀ x ∈ l, m ≤ x
  fit : Fits w (l.map (· - m))
  lt : ∀ e ∈ l.map (· - m), e < ((2 ^ w : Nat) : Int)
  mr : -2000000000000000000 ≤ m ∧ m ≤ 2000000000000000000
  least : ∀ v, v < w → ∃ e ∈ l.map (· - m), ((2 ^ v : Nat) : Int) ≤ e

theorem frOk {x : Int} {t : List Int} (hl : (x :: t).length ≤ 10000000) (hr : InR (x :: t)) : FrOk (x :: t) (mnf x t) (bl (mxf x t - mnf x t).toNat) := by
  obtain ⟨a1, a2⟩ := mnf_le t x
  obtain ⟨b1, b2⟩ := mxf_ge t x
  have hlo : ∀ y ∈ x :: t, mnf x t ≤ y := fun y hy => by
    rcases List.mem_cons.1 hy with rfl | hy
    · exact a1
    · exact a2 y hy
  have hhi : ∀ y ∈ x :: t, y ≤ mxf x t := fun y hy => by
    rcases List.mem_cons.1 hy with rfl | hy
    · exact b1
    · exact b2 y hy
  have hmem : mnf x t ∈ x :: t := (mnf_mem t x).elim (fun h => by rw [h]; exact List.mem_cons_self ..) (List.mem_cons_of_mem _)
  have hmem2 : mxf x t ∈ x :: t := (mxf_mem t x).elim (fun h => by rw [h]; exact List.mem_cons_self ..) (List.mem_cons_of_mem _)
  have m1 := hr _ hmem
  have m2 := hr _ hmem2
  have hB := bl_BL (mxf x t - mnf x t).toNat
  have hd : (mxf x t - mnf x t).toNat < 4611686018427387904 := by omega
  refine ⟨hlo, ⟨bl_le hd, by simpa using hl, fun e he => ?_⟩, fun e he => ?_, m1, fun v hv => ⟨mxf x t - mnf x t, List.mem_map.2 ⟨_, hmem2, rfl⟩, ?_⟩⟩
  · obtain ⟨y, hy, rfl⟩ := List.mem_map.1 he
    have := hlo y hy; have := hhi y hy
    omega
  · obtain ⟨y, hy, rfl⟩ := List.mem_map.1 he
    have := hlo y hy; have := hhi y hy; have := hB.lt
    generalize 2 ^ _ = q at *
    omega
  · rcases hB.le with e | e
    · omega
    · have : 2 ^ v ≤ 2 ^ (bl (mxf x t - mnf x t).toNat - 1) := Nat.pow_le_pow_right (by decide) (by omega)
      generalize 2 ^ (bl (mxf x t - mnf x t).toNat - 1) = q at *
      generalize 2 ^ v = u at *
      have := hlo _ hmem2
      omega

theorem u8bl {w : Nat} (h : w ≤ 62) : IntKind.u8.wrap (w : Int) = (w : Int) := by rw [u8w]; omega

theorem c_sub {l : List Int} {m : Int} {w : Nat} (hl : l.length ≤ 10000000) (hr : InR l) (hF : FrOk l m w) : ∀ (k f i : Nat) (b : List Int), i + k = l.length → k < f → b = (l.take i).map (· - m) →
    column_frame_l1 l m (w : Int) f b (i : Int) = some (sg m ++ [(w : Int)] ++ pk w (l.map (· - m))) := by
  intro k
  induction k with
  | zero =>
    intro f i b hi hf hbe
    obtain ⟨f, rfl⟩ := fuel hf
    have hbl : b = l.map (· - m) := by rw [hbe, List.take_of_length_le (by omega)]
    have h10 := sg_len (n := m) (by have := hF.mr; omega)
    have hpl := pk_len hF.fit
    have hw := hF.fit.w62
    have hm : l.length * w ≤ 10000000 * 62 := Nat.mul_le_mul hl hw
    rw [List.length_map] at hpl
    rw [column_frame_l1, dec_ge (by omega), iftF]
    unfold column_frame_j1
    unfold sg at h10 ⊢
    rw [col_signed2 (by have := hF.mr; omega), bnd_s, grd_p (by omega), hbl, pk_c hF.fit, bnd_s, u8bl hw, grd_p (by rw [List.length_append, List.length_singleton]; omega)]
  | succ k ih =>
    intro f i b hi hf hbe
    obtain ⟨f, rfl⟩ := fuel hf
    have hil : i < l.length := by omega
    have hx := hr.get hil
    have hm := hF.mr
    have hb : b.length ≤ i := by rw [hbe, List.length_map, List.length_take]; omega
    rw [column_frame_l1, dec_lt hil, iftT, at_nat hil, bnd_s, grd_p (by omega), wrap_succ hil (by omega), w64 (x := l[i] - m) (by omega) (by omega)]
    exact ih f (i + 1) (b ++ [l[i] - m]) (by omega) (by omega) (by rw [hbe, List.take_succ_eq_append_getElem hil, List.map_append]; rfl)

theorem c_frame {l : List Int} (hl : l.length ≤ 10000000) (hr : InR l) : column_frame l = some (eF l) := by
  unfold column_frame
  cases l with
  | nil => rfl
  | cons x t =>
    have hF := frOk hl hr
    have h1 := hr x (List.mem_cons_self ..)
    rw [show (((x :: t).length : Int) == 0) = false by simp; omega, iftF]
    unfold slices_Min_int_int slices_Max_int_int
    have e1 : at? (x :: t) 0 = some x := rfl
    have c1 := c_min hl t.length BIG 1 x (by simp; omega) (by rw [bigv]; simp at hl; omega)
    have c2 := c_max hl t.length BIG 1 x (by simp; omega) (by rw [bigv]; simp at hl; omega)
    rw [show ((1 : Nat) : Int) = 1 from rfl, List.drop_succ_cons, List.drop_zero] at c1 c2
    rw [show decide (((x :: t).length : Int) < 1) = false by simp; omega, iftF, iftF, e1, bnd_s, bnd_s, c1, bnd_s, c2, bnd_s]
    have hlo := mnf_le t x
    have hhi := mxf_ge t x
    have hmem2 : mxf x t ∈ x :: t := (mxf_mem t x).elim (fun h => by rw [h]; exact List.mem_cons_self ..) (List.mem_cons_of_mem _)
    have m2 := hr _ hmem2
    have m1 := hF.mr
    rw [w64 (x := mxf x t - mnf x t) (by omega) (by omega), u64w, show (mxf x t - mnf x t) % 18446744073709551616 = ((mxf x t - mnf x t).toNat : Int) by omega, len64 (by omega), bnd_s]
    have h := c_sub hl hr hF (x :: t).length BIG 0 [] (by simp) (by rw [bigv]; omega) rfl
    rw [show ((0 : Nat) : Int) = 0 from rfl] at h
    rw [h]; rfl

end Go.Proofs.Ytmaemlebpjnmoaa
namespace Go.Proofs.Ytmaemlebpjnmoaa
open Go Go.SX Go.SX.Cal
set_option linter.unusedVariables false
set_option linter.unusedSimpArgs false

abbrev SS (l : List Int) : Prop := l.Pairwise (· < ·)

/-- the different numbers in increasing order -/
def ws (l : List Int) : List Int := Go.Lib.compact (l.mergeSort fun x y => decide (x ≤ y))

theorem srt (l : List Int) : ∀ i j (hi : i < (l.mergeSort fun x y => decide (x ≤ y)).length) (hj : j < (l.mergeSort fun x y => decide (x ≤ y)).length), i < j → (l.mergeSort fun x y => decide (x ≤ y))[i] ≤ (l.mergeSort fun x y => decide (x ≤ y))[j] := by
  have h : (l.mergeSort fun x y => decide (x ≤ y)).Pairwise (fun x y => decide (x ≤ y) = true) := List.pairwise_mergeSort (fun a b c h1 h2 => by simp at *; omega) (fun a b => by simp; omega) l
  rw [List.pairwise_iff_getElem] at h
  intro i j hi hj hij
  exact of_decide_eq_true (h i j hi hj hij)

theorem comp_ok {d : Array Int} (hs : ∀ i j, i ≤ j → j < d.size → d[i]! ≤ d[j]!) : ∀ m, m ≤ d.size → SS (Go.Lib.compactUpTo d m) ∧ (∀ x, x ∈ Go.Lib.compactUpTo d m ↔ ∃ j, j < m ∧ d[j]! = x) ∧ (Go.Lib.compactUpTo d m).length ≤ m := by
  intro m
  induction m with
  | zero => intro _; simp [Go.Lib.compactUpTo]
  | succ m ih =>
    intro hm
    obtain ⟨i1, i2, i3⟩ := ih (by omega)
    rw [Go.Lib.compactUpTo_succ]
    cases hk : Go.Lib.keeps d m with
    | false =>
      have hk' : ¬ (m = 0 ∨ d[m]! ≠ d[m - 1]!) := of_decide_eq_false hk
      have h0 : m ≠ 0 := fun e => hk' (.inl e)
      have h1 : d[m]! = d[m - 1]! := Classical.byContradiction fun e => hk' (.inr e)
      rw [if_neg (by simp), List.append_nil]
      refine ⟨i1, fun x => ?_, by omega⟩
      rw [i2]
      constructor
      · rintro ⟨j, hj, e⟩; exact ⟨j, by omega, e⟩
      · rintro ⟨j, hj, e⟩
        by_cases hjm : j = m
        · subst hjm; exact ⟨j - 1, by omega, by rw [← h1]; exact e⟩
        · exact ⟨j, by omega, e⟩
    | true =>
      have hk' : m = 0 ∨ d[m]! ≠ d[m - 1]! := of_decide_eq_true hk
      rw [if_pos rfl]
      refine ⟨List.pairwise_append.2 ⟨i1, List.pairwise_singleton .., fun a ha b hb => ?_⟩, fun x => ?_, by simp; omega⟩
      · have : b = d[m]! := by simpa using hb
        subst this
        obtain ⟨j, hj, e⟩ := (i2 a).1 ha
        rcases hk' with h0 | h0
        · omega
        · have h1 := hs j (m - 1) (by omega) (by omega)
          have h2 := hs (m - 1) m (by omega) (by omega)
          rw [← e]
          have : d[m - 1]! ≠ d[m]! := fun e => h0 e.symm
          omega
      · rw [List.mem_append, i2]
        constructor
        · rintro (⟨j, hj, e⟩ | h)
          · exact ⟨j, by omega, e⟩
          · exact ⟨m, by omega, by simpa using (List.mem_singleton.1 h).symm⟩
        · rintro ⟨j, hj, e⟩
          by_cases hjm : j = m
          · subst hjm; exact .inr (by rw [← e]; exact List.mem_singleton.2 rfl)
          · exact .inl ⟨j, by omega, e⟩

theorem ws_ok (l : List Int) : SS (ws l) ∧ (∀ x, x ∈ ws l ↔ x ∈ l) ∧ (ws l).length ≤ l.length := by
  have hsz : (l.mergeSort fun x y => decide (x ≤ y)).length = l.length := by simp
  have h := comp_ok (d := (l.mergeSort fun x y => decide (x ≤ y)).toArray) (fun i j hij hj => by
    have hj' : j < (l.mergeSort fun x y => decide (x ≤ y)).length := by simpa using hj
    rw [getElem!_pos _ i (by simp at hj ⊢; omega), getElem!_pos _ j hj]
    rcases Nat.lt_or_ge i j with h | h
    · exact srt l i j (by omega) hj' h
    · have : i = j := by omega
      subst this; exact Int.le_refl _) (l.mergeSort fun x y => decide (x ≤ y)).length (by simp)
  obtain ⟨h1, h2, h3⟩ := h
  refine ⟨h1, fun x => ?_, Nat.le_trans h3 (Nat.le_of_eq hsz)⟩
  show x ∈ Go.Lib.compactUpTo _ _ ↔ _
  rw [h2]
  constructor
  · rintro ⟨j, hj, e⟩
    rw [getElem!_pos _ j (by simpa using hj)] at e
    rw [← e]
    have : ((l.mergeSort fun x y => decide (x ≤ y)).toArray)[j]'(by simpa using hj) ∈ (l.mergeSort fun x y => decide (x ≤ y)) := by simp
    exact List.mem_mergeSort.1 this
  · intro hx
    obtain ⟨j, hj, e⟩ := List.getElem_of_mem (List.mem_mergeSort (le := fun x y => decide (x ≤ y)) |>.2 hx)
    exact ⟨j, hj, by rw [getElem!_pos _ j (by simpa using hj)]; simpa using e⟩

/-! ### the reference's list -/

theorem tw_lt (n : Int) : ∀ (l : List Int), ∀ x ∈ l.takeWhile (fun x => decide (x < n)), x < n
  | [], x, h => by simp at h
  | y :: t, x, h => by
    by_cases hy : y < n
    · rw [List.takeWhile_cons, decide_eq_true hy, if_pos rfl] at h
      rcases List.mem_cons.1 h with rfl | h
      · exact hy
      · exact tw_lt n t x h
    · rw [List.takeWhile_cons, decide_eq_false hy, if_neg (by simp)] at h; cases h

theorem dw_head (n : Int) : ∀ (l : List Int) (y : Int) (t : List Int), l.dropWhile (fun x => decide (x < n)) = y :: t → n ≤ y
  | [], y, t, h => by simp at h
  | z :: s, y, t, h => by
    by_cases hz : z < n
    · rw [List.dropWhile_cons, decide_eq_true hz, if_pos rfl] at h; exact dw_head n s y t h
    · rw [List.dropWhile_cons, decide_eq_false hz, if_neg (by simp)] at h
      cases h; omega

theorem set_mid {a b : List Int} {n z : Int} : (a ++ z :: b).set a.length n = a ++ n :: b := by
  rw [List.set_append_right _ _ (Nat.le_refl _), Nat.sub_self, List.set_cons_zero]

end Go.Proofs.Ytmaemlebpjnmoaa
namespace Go.Proofs.Ytmaemlebpjnmoaa
open Go Go.SX Go.SX.Cal
set_option linter.unusedVariables false
set_option linter.unusedSimpArgs false

/-- how many words lie ahead of a number -/
def ps (w : List Int) (x : Int) : Nat := (w.takeWhile (fun y => decide (y < x))).length

theorem ps_le (w : List Int) (x : Int) : ps w x ≤ w.length := tw_le _ w

theorem ps_lt {w : List Int} {x : Int} {h : Nat} (hh : h < w.length) (hp : h < ps w x) : w[h] < x := by
  have hsp : w.takeWhile (fun y => decide (y < x)) ++ w.dropWhile (fun y => decide (y < x)) = w := List.takeWhile_append_dropWhile
  have h1 := tw_lt x w
  unfold ps at hp
  have e : w[h]? = (w.takeWhile (fun y => decide (y < x)))[h]? := by
    conv => lhs; rw [← hsp]
    exact List.getElem?_append_left hp
  rw [List.getElem?_eq_getElem hh, List.getElem?_eq_getElem hp] at e
  rw [Option.some.inj e]
  exact h1 _ (List.getElem_mem hp)

theorem ps_ge {w : List Int} (hs : SS w) {x : Int} {h : Nat} (hh : h < w.length) (hp : ps w x ≤ h) : x ≤ w[h] := by
  have hsp : w.takeWhile (fun y => decide (y < x)) ++ w.dropWhile (fun y => decide (y < x)) = w := List.takeWhile_append_dropWhile
  have h2 := dw_head x w
  unfold ps at hp
  have e : w[h]? = (w.dropWhile (fun y => decide (y < x)))[h - ps w x]? := by
    conv => lhs; rw [← hsp]
    exact List.getElem?_append_right hp
  have hd : h - ps w x < (w.dropWhile (fun y => decide (y < x))).length := by
    have := congrArg List.length hsp
    rw [List.length_append] at this
    unfold ps; omega
  rw [List.getElem?_eq_getElem hh, List.getElem?_eq_getElem hd] at e
  rw [Option.some.inj e]
  have hss : SS (w.dropWhile (fun y => decide (y < x))) := by
    have := hs
    rw [← hsp] at this
    exact (List.pairwise_append.1 this).2.1
  generalize w.dropWhile (fun y => decide (y < x)) = b at *
  cases b with
  | nil => simp at hd
  | cons y t =>
    have hy := h2 y t rfl
    generalize h - ps w x = k at *
    cases k with
    | zero => exact hy
    | succ k =>
      have hk : k < t.length := by simpa using hd
      have := (List.pairwise_cons.1 hss).1 t[k] (List.getElem_mem hk)
      simp only [List.getElem_cons_succ]; omega

theorem ps_at {w : List Int} (hs : SS w) {x : Int} (hx : x ∈ w) : ∃ h : ps w x < w.length, w[ps w x] = x := by
  obtain ⟨j, hj, e⟩ := List.getElem_of_mem hx
  have h1 : ps w x ≤ j := Nat.le_of_not_lt fun h => by have := ps_lt hj h; omega
  have hlt : ps w x < w.length := by omega
  refine ⟨hlt, ?_⟩
  have h2 := ps_ge hs hlt (Nat.le_refl _)
  rcases Nat.lt_or_ge (ps w x) j with h | h
  · have := List.pairwise_iff_getElem.1 hs _ _ hlt hj h; omega
  · have key : ∀ k (hk : k < w.length), k = j → w[k] = x := fun k hk hkj => by subst hkj; exact e
    exact key _ hlt (by omega)

theorem c_bin {w : List Int} (hs : SS w) (hl : w.length ≤ 10000000) (hr : InR w) {x : Int} (hx : -2000000000000000000 ≤ x ∧ x ≤ 2000000000000000000) : ∀ (m f i j : Nat), i + m = j → m < f → i ≤ ps w x → ps w x ≤ j → j ≤ w.length →
    ∃ b, slices_BinarySearchFunc_int_int_int_of_column_numbers_1_l1 w x f (i : Int) (j : Int) = some (((ps w x : Nat) : Int), b) := by
  intro m
  induction m using Nat.strongRecOn with
  | ind m ih =>
    intro f i j hm hf h1 h2 h3
    obtain ⟨f, rfl⟩ := fuel hf
    rw [slices_BinarySearchFunc_int_int_int_of_column_numbers_1_l1]
    by_cases hij : i < j
    · have hh : (i + j) / 2 < w.length := by omega
      have hwx := hr.get hh
      have e1 : ((IntKind.u64.wrap (IntKind.i64.wrap ((i : Int) + (j : Int)))).fdiv (2 ^ (min (1 : Int).toNat (IntKind.u64).bits))) = (((i + j) / 2 : Nat) : Int) := by
        rw [w64 (by omega) (by omega), u64w, show ((i : Int) + (j : Int)) % 18446744073709551616 = ((i + j : Nat) : Int) by omega]
        exact fdu (i + j) 1 (by decide)
      rw [dec_lt hij, iftT, e1, bnd_s, w64 (x := (((i + j) / 2 : Nat) : Int)) (by omega) (by omega), at_nat hh, bnd_s]
      unfold column_numbers_1
      rw [bnd_s, w64 (x := w[(i + j) / 2] - x) (by omega) (by omega)]
      by_cases hc : w[(i + j) / 2] < x
      · have hlt : (i + j) / 2 < ps w x := Nat.lt_of_not_le fun h => by have := ps_ge hs hh h; omega
        rw [decide_eq_true (by omega), iftT, w64 (x := (((i + j) / 2 : Nat) : Int) + 1) (by omega) (by omega), show (((i + j) / 2 : Nat) : Int) + 1 = (((i + j) / 2 + 1 : Nat) : Int) by omega]
        exact ih (j - ((i + j) / 2 + 1)) (by omega) f _ j (by omega) (by omega) (by omega) h2 h3
      · have hge : ps w x ≤ (i + j) / 2 := Nat.le_of_not_lt fun h => hc (ps_lt hh h)
        rw [decide_eq_false (by omega), iftF]
        exact ih ((i + j) / 2 - i) (by omega) f i _ (by omega) (by omega) h1 hge (by omega)
    · have hi : i = ps w x := by omega
      clear ih
      subst hi
      rw [dec_ge hij, iftF]
      unfold slices_BinarySearchFunc_int_int_int_of_column_numbers_1_j1 slices_BinarySearchFunc_int_int_int_of_column_numbers_1_j2 column_numbers_1
      by_cases hil : ps w x < w.length
      · rw [dec_lt hil, iftT, at_nat hil, bnd_s, bnd_s]; exact ⟨_, rfl⟩
      · rw [dec_ge hil, iftF]; exact ⟨_, rfl⟩

/-- the places of numbers among words -/
def pls (w l : List Int) : List Int := l.map fun x => ((ps w x : Nat) : Int)

theorem pls_cons (w : List Int) (x : Int) (t : List Int) : pls w (x :: t) = ((ps w x : Nat) : Int) :: pls w t := rfl

theorem c_places {l w : List Int} (hs : SS w) (hw : InR w) (hl : l.length ≤ 10000000) (hwl : w.length ≤ 10000000) (hr : InR l) : ∀ (m f i : Nat) (b : List Int), i + m = l.length → m < f → b.length ≤ i →
    column_distinct_int_of_column_numbers_1_l1 l w f b (i : Int) = some (w, b ++ pls w (l.drop i)) := by
  intro m
  induction m with
  | zero =>
    intro f i b hi hf hb
    obtain ⟨f, rfl⟩ := fuel hf
    rw [column_distinct_int_of_column_numbers_1_l1, dec_ge (by omega), iftF, List.drop_of_length_le (by omega)]
    simp [column_distinct_int_of_column_numbers_1_j1, pls]
  | succ m ih =>
    intro f i b hi hf hb
    obtain ⟨f, rfl⟩ := fuel hf
    have hil : i < l.length := by omega
    have hx := hr.get hil
    obtain ⟨fl, hbn⟩ := c_bin hs hwl hw hx w.length BIG 0 w.length (by omega) (by rw [bigv]; omega) (Nat.zero_le _) (ps_le _ _) (Nat.le_refl _)
    rw [column_distinct_int_of_column_numbers_1_l1, dec_lt hil, iftT, at_nat hil, bnd_s]
    unfold slices_BinarySearchFunc_int_int_int_of_column_numbers_1
    rw [show ((0 : Nat) : Int) = 0 from rfl] at hbn
    rw [hbn, bnd_s, grd_p (by omega), wrap_succ hil (by omega), ih f (i + 1) _ (by omega) (by omega) (by simp; omega), drop_at hil, pls_cons]
    simp only [List.append_assoc, List.singleton_append]

theorem c_distinct {l : List Int} (hl : l.length ≤ 10000000) (hr : InR l) : column_distinct_int_of_column_numbers_1 l = some (ws l, pls (ws l) l) := by
  obtain ⟨w1, w2, w3⟩ := ws_ok l
  have hw : InR (ws l) := fun x hx => hr x ((w2 x).1 hx)
  unfold column_distinct_int_of_column_numbers_1
  by_cases h0 : 0 < l.length
  · have hne : l ≠ [] := fun e => by rw [e] at h0; simp at h0
    have hms : ∀ x ∈ l.mergeSort (fun x y => decide (x ≤ y)), -2000000000000000000 ≤ x ∧ x ≤ 2000000000000000000 := fun x hx => hr x (List.mem_mergeSort.1 hx)
    have hp := c_places w1 hw hl (by omega) hr l.length BIG 0 [] (by omega) (by rw [bigv]; omega) (by simp)
    rw [show ((0 : Nat) : Int) = 0 from rfl, List.nil_append, List.drop_zero] at hp
    rw [decide_eq_true h0, iftT]
    unfold slices_Clone_int_int slices_SortFunc_ints slices_CompactFunc_ints
    rw [grd_p hne, grd_p (by simp; omega), bnd_s, List.nil_append, grd_p (show ∀ x ∈ l, -2000000000000000000 ≤ x ∧ x ≤ 2000000000000000000 from hr), grd_p (by omega), bnd_s, grd_p (by simp), grd_p hms, grd_p (by simp; omega), bnd_s]
    exact hp
  · have he : l = [] := List.length_eq_zero_iff.1 (by omega)
    subst he
    have hws : ws [] = [] := List.length_eq_zero_iff.1 (by simpa using w3)
    rw [hws]
    rfl

/-! ### all encodings -/

def eW (l : List Int) : List Int := vi (ws l).length ++ eD 0 (ws l) ++ eF (pls (ws l) l)

def enc (kind : Int) (l : List Int) : List Int :=
  if kind = 1 then eR l else if kind = 2 then eD 0 l else if kind = 3 then eF l else if kind = 4 then eW l else eP l

theorem cnumber2 : ∀ (k f n : Nat) (b : List Int), n < 128 ^ (k + 1) → k < f → b.length + k + 1 ≤ 4294967296 → column_number_s_2_l1 f b (n : Int) = some (b ++ vi n)
  | k, 0, n, b, _, hf, _ => by omega
  | k, f + 1, n, b, hn, hf, hb => by
    rw [column_number_s_2_l1]
    by_cases h : n < 128
    · rw [decide_eq_false (by omega), iftF]
      unfold column_number_s_2_j1
      rw [grd_p (by omega), vi_small h, u8w]
      congr 3
      omega
    · cases k with
      | zero => simp at hn; omega
      | succ k =>
        rw [decide_eq_true (by omega), iftT, byte_or, bnd_s, grd_p (by omega), fdiv7]
        have : n / 128 < 128 ^ (k + 1) := by
          refine Nat.div_lt_of_lt_mul ?_
          rw [Nat.pow_succ] at hn; omega
        rw [cnumber2 k f (n / 128) _ this (by omega) (by simp; omega), vi_big h]
        simp

theorem col_number2 {n : Nat} (hn : n < 18446744073709551616) : column_number_s_2 (n : Int) = some (vi n) := by
  have := cnumber2 9 BIG n [] (by omega) (by rw [bigv]; omega) (by simp)
  rw [List.nil_append] at this
  exact this

theorem eD_len : ∀ (l : List Int) (p : Int), InR l → -2000000000000000000 ≤ p ∧ p ≤ 2000000000000000000 → (eD p l).length ≤ 10 * l.length
  | [], _, _, _ => by simp [eD]
  | n :: t, p, hr, hp => by
    have hn := hr n (List.mem_cons_self ..)
    have := eD_len t n (fun x hx => hr x (List.mem_cons_of_mem _ hx)) hn
    have := sg_len (n := n - p) (by omega)
    simp only [eD, List.length_append, List.length_cons]; omega

theorem eF_len {l : List Int} (hl : l.length ≤ 10000000) (hr : InR l) : (eF l).length ≤ 700000000 := by
  cases l with
  | nil => simp [eF]
  | cons x t =>
    have hF := frOk hl hr
    have hpl := pk_len hF.fit
    have hm : (x :: t).length * bl (mxf x t - mnf x t).toNat ≤ 10000000 * 62 := Nat.mul_le_mul hl hF.fit.w62
    have := sg_len (n := mnf x t) (by have := hF.mr; omega)
    rw [List.length_map] at hpl
    simp only [eF, List.length_append, List.length_singleton]; omega

theorem pls_inr {w l : List Int} (hw : w.length ≤ 10000000) : InR (pls w l) := by
  intro x hx
  obtain ⟨y, _, rfl⟩ := List.mem_map.1 hx
  have := ps_le w y
  omega

theorem c_numbers {l : List Int} (hl : l.length ≤ 10000000) (hr : InR l) (kind : Int) : column_numbers kind l = some (enc kind l) := by
  unfold column_numbers enc
  by_cases h1 : kind = 1
  · have h := c_runs hl hr l.length BIG 0 [] (by omega) (by rw [bigv]; omega) (by simp; omega)
    rw [show ((0 : Nat) : Int) = 0 from rfl, List.nil_append, List.drop_zero] at h
    unfold column_runs
    rw [h1, show ((1 : Int) == 1) = true from rfl, iftT, if_pos rfl, h]; rfl
  rw [show (kind == 1) = false by simp [h1], iftF, if_neg h1]
  have hdel : ∀ w : List Int, w.length ≤ 10000000 → InR w → column_delta w = some (eD 0 w) := fun w hwl hw => by
    have h := c_delta hwl hw w.length BIG 0 [] (by omega) (by rw [bigv]; omega) (by simp; omega)
    rw [show ((0 : Nat) : Int) = 0 from rfl, List.nil_append, List.drop_zero, show pv w 0 = 0 from rfl] at h
    unfold column_delta column_each_of_column_delta_1
    rw [h]; rfl
  by_cases h2 : kind = 2
  · rw [h2, show ((2 : Int) == 2) = true from rfl, iftT, if_pos rfl, hdel l hl hr]; rfl
  rw [show (kind == 2) = false by simp [h2], iftF, if_neg h2]
  by_cases h3 : kind = 3
  · rw [h3, show ((3 : Int) == 3) = true from rfl, iftT, if_pos rfl, c_frame hl hr]; rfl
  rw [show (kind == 3) = false by simp [h3], iftF, if_neg h3]
  by_cases h4 : kind = 4
  · obtain ⟨w1, w2, w3⟩ := ws_ok l
    have hw : InR (ws l) := fun x hx => hr x ((w2 x).1 hx)
    have hpl : (pls (ws l) l).length = l.length := by simp [pls]
    have hpi : InR (pls (ws l) l) := pls_inr (by omega)
    have n1 := vi_len10 (n := (ws l).length) (by omega)
    have n2 := eD_len (ws l) 0 hw (by omega)
    have n3 := eF_len (l := pls (ws l) l) (by omega) hpi
    rw [h4, show ((4 : Int) == 4) = true from rfl, iftT, if_pos rfl, c_distinct hl hr, bnd_s]
    simp only
    rw [u64w, show ((ws l).length : Int) % 18446744073709551616 = ((ws l).length : Int) by omega, col_number2 (by omega), bnd_s, hdel _ (by omega) hw, bnd_s, grd_p (by omega), c_frame (by omega) hpi, bnd_s, grd_p (by rw [List.length_append]; omega)]
    rfl
  · have h := c_plain hl hr l.length BIG 0 [] (by omega) (by rw [bigv]; omega) (by simp; omega)
    rw [show ((0 : Nat) : Int) = 0 from rfl, List.nil_append, List.drop_zero] at h
    unfold column_each_of_column_numbers_2
    rw [show (kind == 4) = false by simp [h4], iftF, if_neg h4, h]; rfl

end Go.Proofs.Ytmaemlebpjnmoaa
namespace Go.Proofs.Ytmaemlebpjnmoaa
open Go Go.SX Go.SX.Cal
set_option linter.unusedVariables false
set_option linter.unusedSimpArgs false

/-- ends, with a result as P says -/
def Tot {α : Type} (x : Option α) (P : α → Prop) : Prop := ∃ r, x = some r ∧ P r

theorem tBnd {α β : Type} {x : Option α} {f : α → Option β} {P : α → Prop} {Q : β → Prop} (h : Tot x P) (k : ∀ r, P r → Tot (f r) Q) : Tot (bnd x f) Q := by
  obtain ⟨r, rfl, hr⟩ := h; exact k r hr
theorem tBs {α β : Type} {a : α} {f : α → Option β} {Q : β → Prop} (k : Tot (f a) Q) : Tot (bnd (some a) f) Q := k
theorem tIft {β : Type} {b : Bool} {x y : Option β} {Q : β → Prop} (h : b = true → Tot x Q) (k : b = false → Tot y Q) : Tot (ift b x y) Q := by
  cases b
  · exact k rfl
  · exact h rfl
theorem tGrd {β : Type} {p : Prop} [Decidable p] {x : Option β} {Q : β → Prop} (hp : p) (h : Tot x Q) : Tot (grd p x) Q := by rw [grd_p hp]; exact h
theorem tS {β : Type} {r : β} {Q : β → Prop} (h : Q r) : Tot (some r) Q := ⟨r, rfl, h⟩
theorem Tot.mono {α : Type} {x : Option α} {P Q : α → Prop} (h : Tot x P) (k : ∀ r, P r → Q r) : Tot x Q := by
  obtain ⟨r, e, hr⟩ := h; exact ⟨r, e, k r hr⟩

/-- bytes, at most N -/
def CB (N : Nat) (c : GCursor) : Prop := byts c.b ∧ c.b.length ≤ N

theorem CB.bad {N : Nat} {c : GCursor} (h : CB N c) (x : Bool) : CB N ⟨c.b, x⟩ := h

theorem byts_drop {b : List Int} (h : byts b) (n : Nat) : byts (b.drop n) := fun e he => h e (List.mem_of_mem_drop he)
theorem byts_take {b : List Int} (h : byts b) (n : Nat) : byts (b.take n) := fun e he => h e (List.mem_of_mem_take he)

theorem take_ok {n : Nat} {b : List Int} (h : n ≤ b.length) : column_cursor_take (n : Int) ⟨b, false⟩ = some (b.take n, ⟨b.drop n, false⟩) := by
  unfold column_cursor_take column_cursor_take_j1
  simp only
  rw [iftF, decide_eq_false (by omega), iftF, decide_eq_false (by omega), iftF, grd_p (by omega), grd_p (by omega)]
  simp

theorem take_tot {N : Nat} {n : Int} {c : GCursor} (hc : CB N c) : Tot (column_cursor_take n c) fun r => byts r.1 ∧ CB N r.2 ∧ (r.2.bad = false → (r.1.length : Int) = n ∧ c.bad = false) := by
  unfold column_cursor_take column_cursor_take_j1
  refine tIft (fun h => ?_) fun h0 => ?_
  · exact tS ⟨(fun e he => by cases he), hc, (fun h => by cases h)⟩
  refine tIft (fun h => ?_) fun h1 => ?_
  · exact tS ⟨(fun e he => by cases he), hc, (fun h => by cases h)⟩
  refine tIft (fun h => ?_) fun h2 => ?_
  · exact tS ⟨(fun e he => by cases he), hc, (fun h => by cases h)⟩
  have h1' := of_decide_eq_false h1
  have h2' := of_decide_eq_false h2
  refine tGrd (by omega) (tGrd (by omega) (tS ⟨?_, ⟨byts_drop hc.1 _, ?_⟩, fun _ => ⟨?_, h0⟩⟩))
  · exact byts_take (byts_drop hc.1 _) _
  · have := hc.2; simp only [List.length_drop]; omega
  · simp; omega

theorem byte_ok {e : Int} {t : List Int} (h : 0 ≤ e ∧ e ≤ 255) : column_cursor_byte ⟨e :: t, false⟩ = some (e, ⟨t, false⟩) := by
  unfold column_cursor_byte
  rw [show (1 : Int) = ((1 : Nat) : Int) from rfl, take_ok (by simp), bnd_s]
  simp only
  rw [iftF]
  show bnd (at? [e] 0) _ = _
  rw [show (0 : Int) = ((0 : Nat) : Int) from rfl, at_nat (show 0 < [e].length by simp), bnd_s]
  simp only [List.getElem_cons_zero]
  rw [w64 (by omega) (by omega)]; rfl

theorem byte_tot {N : Nat} {c : GCursor} (hc : CB N c) : Tot (column_cursor_byte c) fun r => (0 ≤ r.1 ∧ r.1 ≤ 255) ∧ CB N r.2 := by
  unfold column_cursor_byte
  refine tBnd (take_tot hc) fun r hr => tIft (fun h => tS ⟨by omega, hr.2.1⟩) fun h => ?_
  obtain ⟨e1, _⟩ := hr.2.2 h
  have hl : 0 < r.1.length := by omega
  rw [show (0 : Int) = ((0 : Nat) : Int) from rfl, at_nat hl]
  have hb := hr.1 _ (List.getElem_mem hl)
  refine tBs (tS ⟨?_, hr.2.1⟩)
  simp only
  rw [w64 (by omega) (by omega)]; exact hb

theorem and127 : ∀ m, m < 256 → m &&& 127 = m % 128 := by decide +kernel

theorem low7 {c : Nat} (h : c < 256) : IntKind.i64.wrap ((BitVec.ofInt (IntKind.i64).bits (c : Int) &&& BitVec.ofInt (IntKind.i64).bits (127 : Int)).toNat : Int) = ((c % 128 : Nat) : Int) := by
  have h1 : (BitVec.ofInt (IntKind.i64).bits (c : Int)).toNat = c := ofI64 c (by omega)
  have h2 : (BitVec.ofInt (IntKind.i64).bits (127 : Int)).toNat = 127 := by decide
  rw [BitVec.toNat_and, h1, h2, and127 _ h, w64 (by omega) (by omega)]

/-- the next seven bits -/
theorem raw_put {a d i : Nat} (ha : a < 2 ^ (7 * i)) (hi : i ≤ 9) (hd : d < 128) (hf : a + 2 ^ (7 * i) * d < 18446744073709551616) :
    IntKind.u64.wrap ((BitVec.ofInt (IntKind.u64).bits (a : Int) ||| BitVec.ofInt (IntKind.u64).bits (IntKind.u64.wrap ((IntKind.u64.wrap ((d : Nat) : Int)) * 2 ^ (min ((7 * i : Nat) : Int).toNat (IntKind.u64).bits)))).toNat : Int) = ((a + 2 ^ (7 * i) * d : Nat) : Int) := by
  have hm : min ((7 * i : Nat) : Int).toNat (IntKind.u64).bits = 7 * i := by show min ((7 * i : Nat) : Int).toNat 64 = _; omega
  have hp : 0 < 2 ^ (7 * i) := Nat.pow_pos (by decide)
  rw [hm]
  have hcast : ((d : Nat) : Int) * 2 ^ (7 * i) = ((2 ^ (7 * i) * d : Nat) : Int) := by push_cast; rw [Int.mul_comm]
  have hlt : 2 ^ (7 * i) * d < 18446744073709551616 := by omega
  generalize hQ : 2 ^ (7 * i) * d = Q at *
  have e1 : IntKind.u64.wrap ((d : Nat) : Int) = ((d : Nat) : Int) := by rw [u64w]; omega
  have e2 : IntKind.u64.wrap ((Q : Nat) : Int) = ((Q : Nat) : Int) := by rw [u64w]; omega
  rw [e1, hcast, e2]
  have h1 : (BitVec.ofInt (IntKind.u64).bits (a : Int)).toNat = a := ofI64 a (by omega)
  have h2 : (BitVec.ofInt (IntKind.u64).bits (Q : Int)).toNat = Q := ofI64 Q (by omega)
  rw [BitVec.toNat_or, h1, h2, ← hQ, Nat.or_comm, ← Nat.two_pow_add_eq_or_of_lt ha, u64w, hQ]
  omega

theorem raw_go : ∀ (m f i a n : Nat) (t : List Int), i + m = 9 → m < f → a < 2 ^ (7 * i) → a + 2 ^ (7 * i) * n < 18446744073709551616 →
    column_cursor_raw_l1 f (vi n ++ t) false (a : Int) ((7 * i : Nat) : Int) = some (((a + 2 ^ (7 * i) * n : Nat) : Int), ⟨t, false⟩) := by
  intro m
  induction m with
  | zero =>
    intro f i a n t hi hf ha hn
    obtain ⟨f, rfl⟩ := fuel hf
    obtain rfl : i = 9 := by omega
    have hp : (2 : Nat) ^ (7 * 9) = 9223372036854775808 := by decide
    have hn2 : n < 2 := by rw [hp] at hn; omega
    rw [column_cursor_raw_l1, decide_eq_true (by omega), iftT, vi_small (by omega), List.singleton_append, byte_ok (by omega), bnd_s, show (((7 * 9 : Nat) : Int) == (63 : Int)) = true from rfl, iftT]
    unfold column_cursor_raw_j1
    simp only
    rw [decide_eq_false (by omega), iftF, low7 (by omega), bnd_s, grd_p (by omega), bnd_s, show n % 128 = n by omega, raw_put ha (by omega) (by omega) hn, bnd_s, decide_eq_true (by omega), iftT]
  | succ m ih =>
    intro f i a n t hi hf ha hn
    obtain ⟨f, rfl⟩ := fuel hf
    have h63 : (((7 * i : Nat) : Int) == (63 : Int)) = false := by rw [beq_eq_false_iff_ne]; omega
    by_cases h : n < 128
    · rw [column_cursor_raw_l1, decide_eq_true (by omega), iftT, vi_small h, List.singleton_append, byte_ok (by omega), bnd_s, h63, iftF]
      unfold column_cursor_raw_j1
      simp only
      rw [iftF, low7 (by omega), bnd_s, grd_p (by omega), bnd_s, show n % 128 = n by omega, raw_put ha (by omega) h hn, bnd_s, decide_eq_true (by omega), iftT]
    · have hp : 0 < 2 ^ (7 * i) := Nat.pow_pos (by decide)
      have hsp : 2 ^ (7 * i) * n = 2 ^ (7 * i) * (n % 128) + 2 ^ (7 * (i + 1)) * (n / 128) := by
        rw [show 7 * (i + 1) = 7 * i + 7 by omega, Nat.pow_add, Nat.mul_assoc, ← Nat.mul_add]
        congr 1
        have := Nat.div_add_mod n 128
        omega
      have hd : n % 128 < 128 := Nat.mod_lt _ (by decide)
      have hlt2 : a + 2 ^ (7 * i) * (n % 128) < 2 ^ (7 * (i + 1)) := by
        have h1 : 2 ^ (7 * i) * (n % 128) ≤ 2 ^ (7 * i) * 127 := Nat.mul_le_mul_left _ (by omega)
        rw [show 7 * (i + 1) = 7 * i + 7 by omega, Nat.pow_add]
        omega
      rw [column_cursor_raw_l1, decide_eq_true (by omega), iftT, vi_big h, List.cons_append, byte_ok (by omega), bnd_s, h63, iftF]
      unfold column_cursor_raw_j1
      simp only
      rw [iftF, low7 (by omega), bnd_s, grd_p (by omega), bnd_s, show (n % 128 + 128) % 128 = n % 128 by omega, raw_put ha (by omega) hd (by omega), bnd_s, decide_eq_false (by omega), iftF, w64 (by omega) (by omega)]
      have := ih f (i + 1) (a + 2 ^ (7 * i) * (n % 128)) (n / 128) t (by omega) (by omega) hlt2 (by omega)
      rw [show ((7 * i : Nat) : Int) + 7 = ((7 * (i + 1) : Nat) : Int) by omega, this, hsp, Nat.add_assoc]

theorem raw_ok {n : Nat} {t : List Int} (h : n < 18446744073709551616) : column_cursor_raw ⟨vi n ++ t, false⟩ = some ((n : Int), ⟨t, false⟩) := by
  have := raw_go 9 BIG 0 0 n t (by omega) (by rw [bigv]; omega) (by decide) (by simpa using h)
  unfold column_cursor_raw
  simpa using this

theorem raw_tot {N : Nat} : ∀ (m f : Nat) (b : List Int) (bad : Bool) (a : Int) (s : Nat), CB N ⟨b, bad⟩ → s + 7 * m ≥ 64 → s ≤ 100 → m < f → Tot (column_cursor_raw_l1 f b bad a (s : Int)) fun r => CB N r.2 := by
  intro m
  induction m with
  | zero =>
    intro f b bad a s hc hs h100 hf
    obtain ⟨f, rfl⟩ := fuel hf
    rw [column_cursor_raw_l1, decide_eq_false (by omega), iftF]
    exact tS hc
  | succ m ih =>
    intro f b bad a s hc hs h100 hf
    obtain ⟨f, rfl⟩ := fuel hf
    rw [column_cursor_raw_l1]
    refine tIft (fun h => ?_) fun _ => tS hc
    have h' := of_decide_eq_true h
    refine tBnd (byte_tot hc) fun r hr => ?_
    have key : ∀ x, Tot (column_cursor_raw_j1 (column_cursor_raw_l1 f) a (s : Int) r x) fun r => CB N r.2 := by
      intro x
      unfold column_cursor_raw_j1
      refine tIft (fun _ => tS hr.2) fun _ => tBs (tGrd (by omega) (tBs (tBs (tIft (fun _ => tS hr.2) fun _ => ?_))))
      rw [w64 (x := (s : Int) + 7) (by omega) (by omega), show (s : Int) + 7 = ((s + 7 : Nat) : Int) by omega]
      exact ih f _ _ _ (s + 7) hr.2 (by omega) (by omega) (by omega)
    exact tIft (fun _ => key _) fun _ => key _

theorem raw_all {N : Nat} {c : GCursor} (hc : CB N c) : Tot (column_cursor_raw c) fun r => CB N r.2 :=
  raw_tot 10 BIG c.b c.bad 0 0 hc (by omega) (by omega) (by rw [bigv]; omega)

theorem num_ok {n : Nat} {t : List Int} (h : n ≤ 4611686018427387904) : column_cursor_number ⟨vi n ++ t, false⟩ = some ((n : Int), ⟨t, false⟩) := by
  unfold column_cursor_number
  rw [raw_ok (by omega), bnd_s, decide_eq_false (by omega), iftF]
  simp only
  rw [w64 (by omega) (by omega)]

theorem num_all {N : Nat} {c : GCursor} (hc : CB N c) : Tot (column_cursor_number c) fun r => CB N r.2 := by
  unfold column_cursor_number
  exact tBnd (raw_all hc) fun r hr => tIft (fun _ => tS hr) fun _ => tS hr

theorem and1 (x : Nat) (h : x < 18446744073709551616) : IntKind.u64.wrap ((BitVec.ofInt (IntKind.u64).bits (x : Int) &&& BitVec.ofInt (IntKind.u64).bits (1 : Int)).toNat : Int) = ((x % 2 : Nat) : Int) := by
  have h1 : (BitVec.ofInt (IntKind.u64).bits (x : Int)).toNat = x := ofI64 x h
  have h2 : (BitVec.ofInt (IntKind.u64).bits (1 : Int)).toNat = 1 := by decide
  rw [BitVec.toNat_and, h1, h2, Nat.and_one_is_mod, u64w]
  omega

theorem sgn_ok {n : Int} {t : List Int} (h : -4611686018427387903 ≤ n ∧ n ≤ 4611686018427387903) : column_cursor_signed ⟨sg n ++ t, false⟩ = some (n, ⟨t, false⟩) := by
  unfold column_cursor_signed sg
  have hz : zz n < 9223372036854775808 := by unfold zz; split <;> omega
  have hq : ((zz n : Nat) : Int).fdiv (2 ^ (min (1 : Int).toNat (IntKind.u64).bits)) = ((zz n / 2 : Nat) : Int) := fdu (zz n) 1 (by decide)
  rw [raw_ok (by omega), bnd_s]
  simp only
  rw [hq, w64 (x := ((zz n / 2 : Nat) : Int)) (by omega) (by omega), bnd_s, and1 _ (by omega), bnd_s, w64 (x := ((zz n % 2 : Nat) : Int)) (by omega) (by omega), w64 (x := 0 - ((zz n % 2 : Nat) : Int)) (by omega) (by omega)]
  have toN : ∀ x : Nat, x < 18446744073709551616 → (BitVec.ofInt (IntKind.i64).bits (x : Int)).toNat = x := fun x hx => ofI64 x hx
  by_cases hn : n < 0
  · have e1 : zz n % 2 = 1 := by unfold zz; rw [if_pos hn]; omega
    have e2 : (zz n / 2 : Nat) = (-n - 1).toNat := by unfold zz; rw [if_pos hn]; omega
    have e3 : (BitVec.ofInt (IntKind.i64).bits (0 - ((1 : Nat) : Int))).toNat = 18446744073709551615 := by decide
    rw [e1, e2, BitVec.toNat_xor, toN _ (by omega), e3, xor_ones _ (by omega), bnd_s]
    congr 2
    rw [show ((18446744073709551615 - (-n - 1).toNat : Nat) : Int) = n + 18446744073709551616 by omega]
    unfold IntKind.wrap; simp [IntKind.bits, IntKind.signed]; omega
  · have e1 : zz n % 2 = 0 := by unfold zz; rw [if_neg hn]; omega
    have e2 : (zz n / 2 : Nat) = n.toNat := by unfold zz; rw [if_neg hn]; omega
    have e3 : (BitVec.ofInt (IntKind.i64).bits (0 - ((0 : Nat) : Int))).toNat = 0 := by decide
    rw [e1, e2, BitVec.toNat_xor, toN _ (by omega), e3, Nat.xor_zero, bnd_s, w64 (x := ((n.toNat : Nat) : Int)) (by omega) (by omega)]
    congr 2
    omega

theorem sgn_all {N : Nat} {c : GCursor} (hc : CB N c) : Tot (column_cursor_signed c) fun r => CB N r.2 := by
  unfold column_cursor_signed
  exact tBnd (raw_all hc) fun r hr => tBs (tBs (tBs (tS hr)))

end Go.Proofs.Ytmaemlebpjnmoaa
namespace Go.Proofs.Ytmaemlebpjnmoaa
open Go Go.SX Go.SX.Cal
set_option linter.unusedVariables false
set_option linter.unusedSimpArgs false

theorem dec_ltl {l : List Int} {n : Nat} (h : l.length < n) : decide (((l.length : Nat) : Int) < (n : Int)) = true := decide_eq_true (by omega)
theorem dec_gel {l : List Int} {n : Nat} (h : ¬ l.length < n) : decide (((l.length : Nat) : Int) < (n : Int)) = false := decide_eq_false (by omega)

theorem del_go {n : Nat} (hn : n ≤ 1048576) : ∀ (w : List Int) (p : Int) (l t : List Int) (f : Nat), InR w → -2000000000000000000 ≤ p ∧ p ≤ 2000000000000000000 → l.length + w.length = n → w.length < f →
    column_cursor_deltas_l1 (n : Int) f l (eD p w ++ t) false p = some (l ++ w, ⟨t, false⟩)
  | [], p, l, t, f, hr, hp, hl, hf => by
    obtain ⟨f, rfl⟩ := fuel hf
    have hl' : l.length = n := hl
    rw [column_cursor_deltas_l1, dec_gel (by omega), iftF]
    unfold column_cursor_deltas_j1 column_cursor_deltas_j2
    rw [iftF, List.append_nil]; rfl
  | x :: w, p, l, t, f, hr, hp, hl, hf => by
    obtain ⟨f, rfl⟩ := fuel hf
    have hl' : l.length + (w.length + 1) = n := hl
    have hx := hr x (List.mem_cons_self ..)
    rw [column_cursor_deltas_l1, dec_ltl (by omega), iftT]
    unfold column_cursor_deltas_j1
    rw [Bool.not_false, iftT, eD, List.append_assoc, sgn_ok (by omega), bnd_s, grd_p (by omega)]
    simp only
    rw [show p + (x - p) = x by omega, w64 (by omega) (by omega), del_go hn w x (l ++ [x]) t f (fun y hy => hr y (List.mem_cons_of_mem _ hy)) hx (by simp; omega) (by simp only [List.length_cons] at hf; omega), List.append_assoc]; rfl

theorem del_ok {w t : List Int} (hw : w.length ≤ 1048576) (hr : InR w) : column_cursor_deltas (w.length : Int) ⟨eD 0 w ++ t, false⟩ = some (w, ⟨t, false⟩) := by
  have := del_go hw w 0 [] t BIG hr (by omega) (by simp) (by rw [bigv]; omega)
  rw [List.nil_append] at this
  exact this

abbrev LB (N : Nat) (r : List Int × GCursor) : Prop := CB N r.2 ∧ r.1.length ≤ 1048576

theorem del_tot {N : Nat} {n : Int} (hn : n ≤ 1048576) : ∀ (m f : Nat) (l b : List Int) (bad : Bool) (x : Int), CB N ⟨b, bad⟩ → l.length ≤ 1048576 → n ≤ l.length + m → m < f → Tot (column_cursor_deltas_l1 n f l b bad x) (LB N) := by
  intro m
  induction m with
  | zero =>
    intro f l b bad x hc hl hm hf
    obtain ⟨f, rfl⟩ := fuel hf
    rw [column_cursor_deltas_l1, decide_eq_false (by omega), iftF]
    unfold column_cursor_deltas_j1 column_cursor_deltas_j2
    exact tS ⟨hc, hl⟩
  | succ m ih =>
    intro f l b bad x hc hl hm hf
    obtain ⟨f, rfl⟩ := fuel hf
    rw [column_cursor_deltas_l1]
    unfold column_cursor_deltas_j1 column_cursor_deltas_j2
    refine tIft (fun h => tIft (fun _ => ?_) fun _ => tS ⟨hc, hl⟩) fun _ => tS ⟨hc, hl⟩
    have h' := of_decide_eq_true h
    refine tBnd (sgn_all hc) fun r hr => tGrd (by omega) (ih f _ _ _ _ hr (by simp; omega) (by simp; omega) (by omega))

theorem del_all {N : Nat} {n : Int} {c : GCursor} (hn : n ≤ 1048576) (hc : CB N c) : Tot (column_cursor_deltas n c) (LB N) :=
  del_tot hn 1048576 BIG [] c.b c.bad 0 hc (by simp) (by simp; omega) (by rw [bigv]; omega)

/-! ### frames -/

theorem fr_loop (r1 : Int × GCursor) (r3 : List Int × GCursor) (r4 : List Int × Bool) (h4 : r4.1.length ≤ 10000000) : ∀ (b a : List Int) (f : Nat), a.length + b.length = r4.1.length → b.length < f →
    column_cursor_frames_l1 r1 r3 r4 f (a ++ b) (a.length : Int) = some (a ++ b.map (fun e => IntKind.i64.wrap (e + r1.1)), ⟨r3.2.b, !r4.2⟩)
  | [], a, f, hl, hf => by
    obtain ⟨f, rfl⟩ := fuel hf
    have hl' : a.length = r4.1.length := hl
    rw [column_cursor_frames_l1, decide_eq_false (by omega), iftF]
    unfold column_cursor_frames_j2
    simp
  | e :: b, a, f, hl, hf => by
    obtain ⟨f, rfl⟩ := fuel hf
    have hl' : a.length + (b.length + 1) = r4.1.length := hl
    have hi : a.length < (a ++ e :: b).length := by simp
    have he : (a ++ e :: b)[a.length] = e := by simp
    rw [column_cursor_frames_l1, decide_eq_true (by omega), iftT, at_nat hi, bnd_s, he, Int.toNat_natCast, set_mid, wrap_succ (n := r4.1.length) (by omega) (by omega)]
    have := fr_loop r1 r3 r4 h4 b (a ++ [IntKind.i64.wrap (e + r1.1)]) f (by simp; omega) (by simp only [List.length_cons] at hf; omega)
    rw [List.length_append, List.length_singleton, List.append_assoc, List.singleton_append] at this
    rw [this]
    simp

theorem fr_ok {l : List Int} (hl : l.length ≤ 1048576) (hr : InR l) : column_cursor_frames (l.length : Int) ⟨eF l, false⟩ = some (l, ⟨[], false⟩) := by
  cases l with
  | nil => rfl
  | cons x t =>
    have hF := frOk (x := x) (t := t) (by omega) hr
    have hm := hF.mr
    have hw := hF.fit.w62
    have hub := pk_ub hF.fit
    have hnp := nums_pk hF.fit hF.lt
    have hlo := hF.lo
    unfold column_cursor_frames
    simp only [eF]
    generalize mnf x t = m at *
    generalize bl (mxf x t - m).toNat = w at *
    rw [List.length_map] at hub hnp
    rw [show ((((x :: t).length : Nat) : Int) == 0) = false by rw [beq_eq_false_iff_ne]; simp; omega, iftF, List.append_assoc, sgn_ok (by omega), bnd_s, List.singleton_append, byte_ok (by omega), bnd_s]
    simp only
    rw [iftF, decide_eq_false (by omega)]
    unfold column_cursor_frames_j1
    simp only
    rw [iftF, take_ok (Nat.le_refl _), bnd_s]
    simp only
    rw [List.take_length, List.drop_length, unpack_c hub, bnd_s, hnp]
    have := fr_loop (m, ⟨(w : Int) :: pk w ((x :: t).map (· - m)), false⟩) (pk w ((x :: t).map (· - m)), ⟨[], false⟩) ((x :: t).map (· - m), true) (by rw [List.length_map]; omega) ((x :: t).map (· - m)) [] BIG (by simp) (by rw [List.length_map, bigv]; omega)
    rw [List.nil_append, List.nil_append, List.length_nil] at this
    simp only [beq_self_eq_true]
    rw [show ((0 : Nat) : Int) = 0 from rfl] at this
    rw [this]
    simp only [Bool.not_true]
    congr 2
    rw [List.map_map]
    conv => rhs; rw [← List.map_id (x :: t)]
    refine List.map_congr_left fun y hy => ?_
    have := hr y hy
    have := hlo y hy
    show IntKind.i64.wrap (y - m + m) = y
    rw [show y - m + m = y by omega, w64 (by omega) (by omega)]

theorem fr_all {N : Nat} {n : Int} {c : GCursor} (hn : 0 ≤ n ∧ n ≤ 1048576) (hc : CB N c) : Tot (column_cursor_frames n c) (LB N) := by
  unfold column_cursor_frames
  refine tIft (fun _ => tS ⟨hc, by simp⟩) fun h0 => tBnd (sgn_all hc) fun r1 h1 => tBnd (byte_tot h1) fun r2 h2 => ?_
  have key : ∀ x, (x = false → r2.1 ≤ 62) → Tot (column_cursor_frames_j1 n r1 r2 x) (LB N) := by
    intro x hx
    unfold column_cursor_frames_j1
    refine tIft (fun _ => tS ⟨h2.2, by simp⟩) fun hx' => tBnd (take_tot h2.2) fun r3 h3 => ?_
    have hw := hx hx'
    obtain ⟨w, hwe⟩ : ∃ w : Nat, r2.1 = (w : Int) := ⟨r2.1.toNat, by omega⟩
    obtain ⟨k, hke⟩ : ∃ k : Nat, n = (k : Int) := ⟨n.toNat, by omega⟩
    have hfr : ∀ r4 : List Int × Bool, r4.1.length ≤ 1048576 → Tot (column_cursor_frames_l1 r1 r3 r4 BIG r4.1 0) (LB N) := by
      intro r4 h4
      have := fr_loop r1 r3 r4 (by omega) r4.1 [] BIG (by simp) (by rw [bigv]; omega)
      rw [List.nil_append, List.nil_append, List.length_nil, show ((0 : Nat) : Int) = 0 from rfl] at this
      rw [this]
      exact tS ⟨h3.2.1, by simpa using h4⟩
    rw [hwe, hke]
    by_cases hb : r3.1.length = (k * w + 7) / 8
    · rw [unpack_c ⟨by omega, by omega, h3.1, hb⟩]
      exact tBs (hfr _ (by simp [nums]; omega))
    · rw [unpack_bad (by omega) (by omega) hb]
      exact tBs (hfr _ (by simp))
  exact tIft (fun _ => key _ (fun h => by cases h)) fun _ => key _ (fun h => by have := of_decide_eq_false h; omega)

/-! ### runs -/

theorem tw_rep (x : Int) : ∀ t : List Int, t.takeWhile (· == x) = List.replicate (t.takeWhile (· == x)).length x
  | [] => rfl
  | y :: t => by
    by_cases h : y = x
    · rw [List.takeWhile_cons, show (y == x) = true by simp [h], if_pos rfl, List.length_cons, List.replicate_succ, ← tw_rep x t, h]
    · rw [List.takeWhile_cons, show (y == x) = false by simp [h], if_neg (by simp)]; rfl

theorem run_app (rec1 : List Int → List Int → Bool → Option ((List Int) × GCursor)) (r1 r2 : Int × GCursor) {c : Nat} (h1 : r1.1 = (c : Int)) (hc : c ≤ 1048576) : ∀ (m f i : Nat) (l : List Int), i + m = c → m < f → l.length + m ≤ 10000000 →
    column_cursor_runs_l2 rec1 r1 r2 f l (i : Int) = rec1 (l ++ List.replicate m r2.1) r2.2.b r2.2.bad := by
  intro m
  induction m with
  | zero =>
    intro f i l hi hf hl
    obtain ⟨f, rfl⟩ := fuel hf
    rw [column_cursor_runs_l2, h1, dec_ge (by omega), iftF]; simp
  | succ m ih =>
    intro f i l hi hf hl
    obtain ⟨f, rfl⟩ := fuel hf
    rw [column_cursor_runs_l2, h1, dec_lt (by omega), iftT, grd_p (by omega), wrap_succ (n := c) (by omega) (by omega), ih f (i + 1) _ (by omega) (by omega) (by simp; omega), List.append_assoc, List.replicate_succ]; rfl

theorem run_go {n : Nat} (hn : n ≤ 1048576) : ∀ (m : Nat) (w : List Int), w.length = m → ∀ (l t : List Int) (f : Nat), InR w → l.length + m = n → m < f →
    column_cursor_runs_l1 (n : Int) f l (eR w ++ t) false = some (l ++ w, ⟨t, false⟩) := by
  intro m
  induction m using Nat.strongRecOn with
  | ind m ih =>
    intro w hw l t f hr hl hf
    obtain ⟨f, rfl⟩ := fuel hf
    cases w with
    | nil =>
      have : m = 0 := by simpa using hw.symm
      rw [column_cursor_runs_l1, dec_gel (by omega), iftF]
      unfold column_cursor_runs_j1 column_cursor_runs_j3
      rw [iftF, List.append_nil, eR]; rfl
    | cons x w =>
      have hx := hr x (List.mem_cons_self ..)
      have hsp : w.takeWhile (· == x) ++ w.dropWhile (· == x) = w := List.takeWhile_append_dropWhile
      have htr := tw_rep x w
      have hlw : (w.takeWhile (· == x)).length + (w.dropWhile (· == x)).length = w.length := by rw [← List.length_append, hsp]
      simp only [List.length_cons] at hw
      rw [column_cursor_runs_l1, dec_ltl (by omega), iftT]
      unfold column_cursor_runs_j1
      rw [Bool.not_false, iftT, eR_cons, List.append_assoc, List.append_assoc, num_ok (by omega), bnd_s]
      simp only
      rw [sgn_ok (by omega), bnd_s, decide_eq_false (by omega), iftF]
      unfold column_cursor_runs_j2
      rw [w64 (by omega) (by omega), decide_eq_false (by omega), iftF]
      have ha := run_app (column_cursor_runs_l1 (n : Int) f) (((1 + (w.takeWhile (· == x)).length : Nat) : Int), ⟨sg x ++ (eR (w.dropWhile (· == x)) ++ t), false⟩) (x, ⟨eR (w.dropWhile (· == x)) ++ t, false⟩) (c := 1 + (w.takeWhile (· == x)).length) rfl (by omega) (1 + (w.takeWhile (· == x)).length) BIG 0 l (by omega) (by rw [bigv]; omega) (by omega)
      rw [show ((0 : Nat) : Int) = 0 from rfl] at ha
      rw [ha]
      simp only
      have hi := ih (w.dropWhile (· == x)).length (by omega) (w.dropWhile (· == x)) rfl (l ++ List.replicate (1 + (w.takeWhile (· == x)).length) x) t f (fun y hy => hr y (List.mem_cons_of_mem _ (by rw [← hsp]; exact List.mem_append_right _ hy))) (by simp; omega) (by omega)
      rw [hi, List.append_assoc, Nat.add_comm 1, List.replicate_succ, List.cons_append, ← htr, hsp]

theorem run_ok {w t : List Int} (hw : w.length ≤ 1048576) (hr : InR w) : column_cursor_runs (w.length : Int) ⟨eR w ++ t, false⟩ = some (w, ⟨t, false⟩) := by
  have := run_go hw w.length w rfl [] t BIG hr (by simp) (by rw [bigv]; omega)
  rw [List.nil_append] at this
  exact this

theorem run_tot {N : Nat} {n : Int} (hn : n ≤ 1048576) : ∀ (m f : Nat) (l b : List Int) (bad : Bool), CB N ⟨b, bad⟩ → l.length ≤ 1048576 → n ≤ l.length + m → m < f → Tot (column_cursor_runs_l1 n f l b bad) (LB N) := by
  intro m
  induction m with
  | zero =>
    intro f l b bad hc hl hm hf
    obtain ⟨f, rfl⟩ := fuel hf
    rw [column_cursor_runs_l1, decide_eq_false (by omega), iftF]
    unfold column_cursor_runs_j1 column_cursor_runs_j3
    exact tS ⟨hc, hl⟩
  | succ m ih =>
    intro f l b bad hc hl hm hf
    obtain ⟨f, rfl⟩ := fuel hf
    rw [column_cursor_runs_l1]
    unfold column_cursor_runs_j1 column_cursor_runs_j3
    refine tIft (fun h => tIft (fun _ => ?_) fun _ => tS ⟨hc, hl⟩) fun _ => tS ⟨hc, hl⟩
    have h' := of_decide_eq_true h
    refine tBnd (num_all hc) fun r1 h1 => tBnd (sgn_all h1) fun r2 h2 => ?_
    unfold column_cursor_runs_j2
    refine tIft (fun _ => tIft (fun _ => tS ⟨h2, by simp⟩) (fun h => by cases h)) fun h1' => tIft (fun _ => tS ⟨h2, by simp⟩) fun h2' => ?_
    have g1 := of_decide_eq_false h1'
    have g2 := of_decide_eq_false h2'
    rw [w64 (by omega) (by omega)] at g2
    obtain ⟨c, hce⟩ : ∃ c : Nat, r1.1 = (c : Int) := ⟨r1.1.toNat, by omega⟩
    have ha := run_app (column_cursor_runs_l1 n f) r1 r2 hce (by omega) c BIG 0 l (by omega) (by rw [bigv]; omega) (by omega)
    rw [show ((0 : Nat) : Int) = 0 from rfl] at ha
    rw [ha]
    exact ih f _ _ _ h2 (by simp; omega) (by simp; omega) (by omega)

theorem run_all {N : Nat} {n : Int} {c : GCursor} (hn : n ≤ 1048576) (hc : CB N c) : Tot (column_cursor_runs n c) (LB N) :=
  run_tot hn 1048576 BIG [] c.b c.bad hc (by simp) (by simp; omega) (by rw [bigv]; omega)

/-! ### one after the other -/

theorem pl_go {n : Nat} (hn : n ≤ 1048576) : ∀ (w l t : List Int) (f : Nat), InR w → l.length + w.length = n → w.length < f →
    column_cursor_numbers_l1 (n : Int) f l (eP w ++ t) false = some (l ++ w, ⟨t, false⟩)
  | [], l, t, f, hr, hl, hf => by
    obtain ⟨f, rfl⟩ := fuel hf
    have hl' : l.length = n := hl
    rw [column_cursor_numbers_l1, dec_gel (by omega), iftF]
    unfold column_cursor_numbers_j1 column_cursor_numbers_j2
    rw [iftF, List.append_nil]; rfl
  | x :: w, l, t, f, hr, hl, hf => by
    obtain ⟨f, rfl⟩ := fuel hf
    have hl' : l.length + (w.length + 1) = n := hl
    have hx := hr x (List.mem_cons_self ..)
    rw [column_cursor_numbers_l1, dec_ltl (by omega), iftT]
    unfold column_cursor_numbers_j1
    rw [Bool.not_false, iftT, eP_cons, List.append_assoc, sgn_ok (by omega), bnd_s, grd_p (by omega)]
    simp only
    rw [pl_go hn w (l ++ [x]) t f (fun y hy => hr y (List.mem_cons_of_mem _ hy)) (by simp; omega) (by simp only [List.length_cons] at hf; omega), List.append_assoc]; rfl

theorem pl_tot {N : Nat} {n : Int} (hn : n ≤ 1048576) : ∀ (m f : Nat) (l b : List Int) (bad : Bool), CB N ⟨b, bad⟩ → l.length ≤ 1048576 → n ≤ l.length + m → m < f → Tot (column_cursor_numbers_l1 n f l b bad) (LB N) := by
  intro m
  induction m with
  | zero =>
    intro f l b bad hc hl hm hf
    obtain ⟨f, rfl⟩ := fuel hf
    rw [column_cursor_numbers_l1, decide_eq_false (by omega), iftF]
    unfold column_cursor_numbers_j1 column_cursor_numbers_j2
    exact tS ⟨hc, hl⟩
  | succ m ih =>
    intro f l b bad hc hl hm hf
    obtain ⟨f, rfl⟩ := fuel hf
    rw [column_cursor_numbers_l1]
    unfold column_cursor_numbers_j1 column_cursor_numbers_j2
    refine tIft (fun h => tIft (fun _ => ?_) fun _ => tS ⟨hc, hl⟩) fun _ => tS ⟨hc, hl⟩
    have h' := of_decide_eq_true h
    refine tBnd (sgn_all hc) fun r hr => tGrd (by omega) (ih f _ _ _ hr (by simp; omega) (by simp; omega) (by omega))

/-! ### words and places -/

theorem pk_go {w l : List Int} (c : GCursor) (hs : SS w) (hw : w.length ≤ 1048576) (hl : l.length ≤ 1048576) (hm : ∀ x ∈ l, x ∈ w) : ∀ (m f i : Nat) (b : List Int), i + m = l.length → m < f → b.length ≤ i →
    column_picked_int_l1 w (pls w l) c f b (i : Int) = some (b ++ l.drop i, c) := by
  have hpl : (pls w l).length = l.length := by simp [pls]
  intro m
  induction m with
  | zero =>
    intro f i b hi hf hb
    obtain ⟨f, rfl⟩ := fuel hf
    rw [column_picked_int_l1, hpl, dec_ge (by omega), iftF, List.drop_of_length_le (by omega)]
    unfold column_picked_int_j2
    simp
  | succ m ih =>
    intro f i b hi hf hb
    obtain ⟨f, rfl⟩ := fuel hf
    have hil : i < l.length := by omega
    have hil' : i < (pls w l).length := by omega
    obtain ⟨hp, he⟩ := ps_at hs (hm _ (List.getElem_mem hil))
    have hg : (pls w l)[i] = ((ps w l[i] : Nat) : Int) := by simp [pls]
    rw [column_picked_int_l1, hpl, dec_lt hil, iftT, at_nat hil', bnd_s, hg, decide_eq_false (by omega), iftF, decide_eq_false (by omega)]
    unfold column_picked_int_j1
    rw [iftF, at_nat hp, bnd_s, he, grd_p (by omega), wrap_succ hil (by omega), ih f (i + 1) _ (by omega) (by omega) (by simp; omega), drop_at hil, List.append_assoc]; rfl

theorem pk_tot {N : Nat} {w ps : List Int} {c : GCursor} (hc : CB N c) (hps : ps.length ≤ 1048576) : ∀ (m f i : Nat) (b : List Int), i + m = ps.length → m < f → b.length ≤ i → Tot (column_picked_int_l1 w ps c f b (i : Int)) (LB N) := by
  intro m
  induction m with
  | zero =>
    intro f i b hi hf hb
    obtain ⟨f, rfl⟩ := fuel hf
    rw [column_picked_int_l1, dec_ge (by omega), iftF]
    unfold column_picked_int_j2
    exact tS ⟨hc, by simp only; omega⟩
  | succ m ih =>
    intro f i b hi hf hb
    obtain ⟨f, rfl⟩ := fuel hf
    have hil : i < ps.length := by omega
    rw [column_picked_int_l1, dec_lt hil, iftT, at_nat hil, bnd_s]
    unfold column_picked_int_j1
    refine tIft (fun _ => tIft (fun _ => tS ⟨hc, by simp⟩) fun h => by cases h) fun h1 => tIft (fun _ => tS ⟨hc, by simp⟩) fun h2 => ?_
    have g1 := of_decide_eq_false h1
    have g2 := of_decide_eq_false h2
    obtain ⟨e, he⟩ : ∃ e : Nat, ps[i] = (e : Int) := ⟨ps[i].toNat, by omega⟩
    rw [he, at_nat (show e < w.length by omega), wrap_succ hil (by omega)]
    exact tBs (tGrd (by omega) (ih f (i + 1) _ (by omega) (by omega) (by simp; omega)))

/-! ### all encodings -/

theorem c_back {l : List Int} (hl : l.length ≤ 1048576) (hr : InR l) {kind : Int} (hk : 0 ≤ kind ∧ kind ≤ 4) : column_cursor_numbers kind (l.length : Int) ⟨enc kind l, false⟩ = some (l, ⟨[], false⟩) := by
  unfold column_cursor_numbers enc
  by_cases h1 : kind = 1
  · have := run_ok (t := []) hl hr
    rw [List.append_nil] at this
    rw [h1, show ((1 : Int) == 1) = true from rfl, iftT, if_pos rfl, this]; rfl
  rw [show (kind == 1) = false by simp [h1], iftF, if_neg h1]
  by_cases h2 : kind = 2
  · have := del_ok (t := []) hl hr
    rw [List.append_nil] at this
    rw [h2, show ((2 : Int) == 2) = true from rfl, iftT, if_pos rfl, this]; rfl
  rw [show (kind == 2) = false by simp [h2], iftF, if_neg h2]
  by_cases h3 : kind = 3
  · rw [h3, show ((3 : Int) == 3) = true from rfl, iftT, if_pos rfl, fr_ok hl hr]; rfl
  rw [show (kind == 3) = false by simp [h3], iftF, if_neg h3]
  by_cases h4 : kind = 4
  · obtain ⟨w1, w2, w3⟩ := ws_ok l
    have hw : InR (ws l) := fun x hx => hr x ((w2 x).1 hx)
    have hpl : (pls (ws l) l).length = l.length := by simp [pls]
    have hpi : InR (pls (ws l) l) := pls_inr (by omega)
    have hfr := fr_ok (l := pls (ws l) l) (by omega) hpi
    rw [hpl] at hfr
    rw [h4, show ((4 : Int) == 4) = true from rfl, iftT, if_pos rfl]
    unfold eW
    rw [List.append_assoc, num_ok (by omega), bnd_s]
    simp only
    rw [decide_eq_false (by omega), iftF, del_ok (by omega) hw, bnd_s]
    simp only
    rw [hfr, bnd_s]
    unfold column_picked_int
    have := pk_go ⟨[], false⟩ w1 (by omega) hl (fun x hx => (w2 x).2 hx) l.length BIG 0 [] (by omega) (by rw [bigv]; omega) (by simp)
    rw [List.drop_zero, List.nil_append, show ((0 : Nat) : Int) = 0 from rfl] at this
    simp only
    rw [this, bnd_s]
  · have := pl_go hl l [] [] BIG hr (by simp) (by rw [bigv]; omega)
    rw [List.append_nil, List.nil_append] at this
    rw [show (kind == 4) = false by simp [h4], iftF, if_neg h4, this]

theorem c_ends {N : Nat} {c : GCursor} (hc : CB N c) {n : Int} (hn : 0 ≤ n ∧ n ≤ 1048576) (kind : Int) : Tot (column_cursor_numbers kind n c) (LB N) := by
  unfold column_cursor_numbers
  refine tIft (fun _ => tBnd (run_all hn.2 hc) fun r hr => tS hr) fun _ => tIft (fun _ => tBnd (del_all hn.2 hc) fun r hr => tS hr) fun _ => tIft (fun _ => tBnd (fr_all hn hc) fun r hr => tS hr) fun _ => tIft (fun _ => ?_) fun _ => ?_
  · refine tBnd (num_all hc) fun r4 h4 => tIft (fun _ => tS ⟨h4, by simp⟩) fun h => ?_
    have g := of_decide_eq_false h
    refine tBnd (del_all (by omega) h4) fun r5 h5 => tBnd (fr_all hn h5.1) fun r6 h6 => ?_
    refine tBnd (P := LB N) ?_ fun r hr => tS hr
    exact pk_tot h6.1 h6.2 r6.1.length BIG 0 [] (by omega) (by rw [bigv]; have := h6.2; omega) (by simp)
  · exact pl_tot hn.2 1048576 BIG [] c.b c.bad hc (by simp) (by simp; omega) (by rw [bigv]; omega)

end Go.Proofs.Ytmaemlebpjnmoaa
namespace Go.Proofs.Ytmaemlebpjnmoaa
open Go Go.SX Go.SX.Cal
set_option linter.unusedVariables false
set_option linter.unusedSimpArgs false

end Go.Proofs.Ytmaemlebpjnmoaa
namespace Go.Proofs.Ytmaemlebpjnmoaa
open Go Go.SX Go.SX.Cal
set_option linter.unusedVariables false
set_option linter.unusedSimpArgs false

/-! ### frames -/

/-! ### one after the other -/

/-! ### runs -/

/-! ### differences -/

/-! ### words and places -/

/-! ### all encodings -/

end Go.Proofs.Ytmaemlebpjnmoaa
namespace Go.Proofs.Ytmaemlebpjnmoaa
open Go Go.SX Go.SX.Cal
set_option linter.unusedVariables false
set_option linter.unusedSimpArgs false

def outB (x : Int) : Bool := decide (x < -2000000000000000000) || decide (2000000000000000000 < x)

theorem out_eq (x : Int) : column_outside x = some (outB x) := by
  unfold column_outside column_outside_j1 outB
  cases decide (x < -2000000000000000000) <;> rfl

theorem idx_out {l : List Int} (hl : l.length ≤ 10000000) : ∀ (m f i : Nat), i + m = l.length → m < f → slices_IndexFunc_int_int_of_column_outside_l1 l f (i : Int) = some (match first (fun j => outB (l.getD j 0)) i l.length with | some j => (j : Int) | none => -1) := by
  intro m
  induction m with
  | zero =>
    intro f i hi hf
    obtain ⟨f, rfl⟩ := fuel hf
    have : i = l.length := by omega
    subst this
    rw [slices_IndexFunc_int_int_of_column_outside_l1, dec_ge (by omega), iftF, first_end]; rfl
  | succ m ih =>
    intro f i hi hf
    obtain ⟨f, rfl⟩ := fuel hf
    have hil : i < l.length := by omega
    have hg : l.getD i 0 = l[i] := by simp [hil]
    rw [slices_IndexFunc_int_int_of_column_outside_l1, dec_lt hil, iftT, at_nat hil, bnd_s, out_eq, bnd_s, first_step hil, hg]
    cases outB l[i] with
    | true => rw [iftT, if_pos rfl]
    | false => rw [iftF, if_neg (by simp), wrap_succ hil (by omega), ih f (i + 1) (by omega) (by omega)]

theorem has_out {l : List Int} (hl : l.length ≤ 10000000) : slices_ContainsFunc_int_int_of_column_outside l = some (first (fun j => outB (l.getD j 0)) 0 l.length).isSome := by
  have := idx_out hl l.length BIG 0 (by omega) (by rw [bigv]; omega)
  unfold slices_ContainsFunc_int_int_of_column_outside slices_IndexFunc_int_int_of_column_outside
  rw [show ((0 : Nat) : Int) = 0 from rfl] at this
  rw [this, bnd_s]
  cases first (fun j => outB (l.getD j 0)) 0 l.length with
  | none => rfl
  | some j =>
    simp only [Option.isSome_some]
    rw [decide_eq_true (by omega)]

theorem inr_none {l : List Int} : first (fun j => outB (l.getD j 0)) 0 l.length = none ↔ InR l := by
  rw [first_none]
  constructor
  · intro h x hx
    obtain ⟨j, hj, e⟩ := List.getElem_of_mem hx
    have := h j (Nat.zero_le _) hj
    rw [show l.getD j 0 = x by simp [hj, e]] at this
    unfold outB at this
    rw [Bool.or_eq_false_iff] at this
    have h1 := of_decide_eq_false this.1
    have h2 := of_decide_eq_false this.2
    omega
  · intro h j _ hj
    have := h.get hj
    rw [show l.getD j 0 = l[j] by simp [hj]]
    unfold outB
    rw [decide_eq_false (by omega), decide_eq_false (by omega)]; rfl

theorem clip8 (l : List Int) : slices_Clip_byte_byte l = some l := by
  unfold slices_Clip_byte_byte
  rw [grd_p (by omega)]; simp
theorem clip64 (l : List Int) : slices_Clip_int_int l = some l := by
  unfold slices_Clip_int_int
  rw [grd_p (by omega)]; simp

/-- what both sides write -/
noncomputable def wr (kind : Int) (l : List Int) : List Int × Int := open Classical in
  if (0 ≤ kind ∧ kind ≤ 4) ∧ InR l then (enc kind l, 0) else ([], 3)

theorem c_Numbers {l : List Int} (hl : l.length ≤ 10000000) (kind : Int) : column_Numbers kind l = some (wr kind l) := by
  unfold column_Numbers column_Numbers_j1 wr
  by_cases h1 : kind < 0
  · rw [decide_eq_true h1, iftT, iftT, if_neg (by omega)]
  rw [decide_eq_false h1, iftF]
  by_cases h2 : 4 < kind
  · rw [decide_eq_true h2, iftT, iftT, if_neg (by omega)]
  rw [decide_eq_false h2, iftF, has_out hl, bnd_s]
  cases hf : first (fun j => outB (l.getD j 0)) 0 l.length with
  | none =>
    have hr := inr_none.1 hf
    rw [Option.isSome_none, iftF, c_numbers hl hr, bnd_s, clip8, bnd_s, if_pos ⟨by omega, hr⟩]
  | some j =>
    have hr : ¬ InR l := fun h => by rw [inr_none.2 h] at hf; cases hf
    rw [Option.isSome_some, iftT, if_neg (fun h => hr h.2)]

/-- what both sides read: the list that is written so, if there is one -/
def Rd (kind n : Int) (b : List Int) (r : List Int × Int) : Prop :=
  (¬ (0 ≤ kind ∧ kind ≤ 4 ∧ 0 ≤ n ∧ n ≤ 1048576) ∧ r = ([], 3)) ∨
  ((0 ≤ kind ∧ kind ≤ 4 ∧ 0 ≤ n ∧ n ≤ 1048576) ∧ ((∃ l, InR l ∧ (l.length : Int) = n ∧ enc kind l = b ∧ r = (l, 0)) ∨ ((∀ l, InR l → (l.length : Int) = n → enc kind l ≠ b) ∧ r = ([], 1))))

theorem enc_inj {kind : Int} (hk : 0 ≤ kind ∧ kind ≤ 4) {l m : List Int} (hl : l.length ≤ 1048576) (hr : InR l) (hm : InR m) (h : m.length = l.length) (e : enc kind m = enc kind l) : m = l := by
  have h1 := c_back hl hr hk
  have h2 := c_back (l := m) (by omega) hm hk
  rw [e, h, h1] at h2
  exact (congrArg (fun o => o.1) (Option.some.inj h2)).symm

theorem Rd.uniq {kind n : Int} {b : List Int} {r s : List Int × Int} (h : Rd kind n b r) (k : Rd kind n b s) : r = s := by
  rcases h with ⟨h0, rfl⟩ | ⟨h0, h⟩
  · rcases k with ⟨_, rfl⟩ | ⟨k0, _⟩
    · rfl
    · exact absurd k0 h0
  · rcases k with ⟨k0, _⟩ | ⟨_, k⟩
    · exact absurd h0 k0
    · rcases h with ⟨l, h1, h2, h3, rfl⟩ | ⟨h1, rfl⟩ <;> rcases k with ⟨m, k1, k2, k3, rfl⟩ | ⟨k1, rfl⟩
      · rw [enc_inj (kind := kind) (by omega) (by omega) h1 k1 (by omega) (k3.trans h3.symm)]
      · exact absurd h3 (k1 l h1 h2)
      · exact absurd k3 (h1 m k1 k2)
      · rfl

theorem strn_back {a : List Int} (h : byts a) : (strOfNums a).data.toList.map (fun u => (u.toNat : Int)) = a := by
  rw [strOfNums_data, List.map_map]
  conv => rhs; rw [← List.map_id a]
  refine List.map_congr_left fun x hx => ?_
  have := h x hx
  show ((UInt8.ofNat x.toNat).toNat : Int) = x
  rw [UInt8.toNat_ofNat']
  omega

theorem strn_eq {a b : List Int} (ha : byts a) (hb : byts b) : ((strOfNums a).toList == (strOfNums b).toList) = decide (a = b) := by
  by_cases h : a = b
  · subst h; rw [decide_eq_true rfl, beq_self_eq_true]
  · rw [decide_eq_false h, beq_eq_false_iff_ne]
    intro e
    rw [ByteArray.toList_eq, ByteArray.toList_eq] at e
    refine h ?_
    rw [← strn_back ha, ← strn_back hb, e]

theorem byts_app {a b : List Int} (ha : byts a) (hb : byts b) : byts (a ++ b) := fun e he => (List.mem_append.1 he).elim (ha e) (hb e)

theorem byts_vi : ∀ n : Nat, byts (vi n) := by
  intro n
  induction n using Nat.strongRecOn with
  | ind n ih =>
    by_cases h : n < 128
    · rw [vi_small h]; intro e he; have := List.mem_singleton.1 he; omega
    · rw [vi_big h]
      intro e he
      rcases List.mem_cons.1 he with h1 | h1
      · omega
      · exact ih (n / 128) (by omega) e h1

theorem byts_eP : ∀ l : List Int, byts (eP l)
  | [] => fun e he => by cases he
  | x :: t => by rw [eP_cons]; exact byts_app (byts_vi _) (byts_eP t)

theorem byts_eD : ∀ (l : List Int) (p : Int), byts (eD p l)
  | [], p => fun e he => by cases he
  | x :: t, p => by rw [eD]; exact byts_app (byts_vi _) (byts_eD t x)

theorem byts_eR : ∀ (m : Nat) (l : List Int), l.length = m → byts (eR l) := by
  intro m
  induction m using Nat.strongRecOn with
  | ind m ih =>
    intro l hl
    cases l with
    | nil => rw [eR]; intro e he; cases he
    | cons x t =>
      have := (List.dropWhile_sublist (fun y => y == x) (l := t)).length_le
      simp only [List.length_cons] at hl
      rw [eR_cons]
      exact byts_app (byts_app (byts_vi _) (byts_vi _)) (ih _ (by omega) _ rfl)

theorem byts_eF {l : List Int} (hl : l.length ≤ 10000000) (hr : InR l) : byts (eF l) := by
  cases l with
  | nil => intro e he; cases he
  | cons x t =>
    have hF := frOk hl hr
    have hw := hF.fit.w62
    have := (pk_ub hF.fit).by8
    simp only [eF]
    refine byts_app (byts_app (byts_vi _) fun e he => ?_) this
    have := List.mem_singleton.1 he
    omega

theorem byts_enc {l : List Int} (hl : l.length ≤ 10000000) (hr : InR l) (kind : Int) : byts (enc kind l) := by
  unfold enc
  split
  · exact byts_eR _ l rfl
  split
  · exact byts_eD _ _
  split
  · exact byts_eF hl hr
  split
  · obtain ⟨w1, w2, w3⟩ := ws_ok l
    have hpl : (pls (ws l) l).length = l.length := by simp [pls]
    exact byts_app (byts_app (byts_vi _) (byts_eD _ _)) (byts_eF (by omega) (pls_inr (by omega)))
  · exact byts_eP l

theorem c_Unnumbers {b : List Int} (hb : byts b) (kind n : Int) : ∃ r, column_Unnumbers kind n b = some r ∧ Rd kind n b r := by
  unfold column_Unnumbers column_Unnumbers_j1
  by_cases h1 : kind < 0
  · rw [decide_eq_true h1, iftT, iftT]; exact ⟨_, rfl, .inl ⟨by omega, rfl⟩⟩
  rw [decide_eq_false h1, iftF]
  by_cases h2 : 4 < kind
  · rw [decide_eq_true h2, iftT, iftT]; exact ⟨_, rfl, .inl ⟨by omega, rfl⟩⟩
  rw [decide_eq_false h2, iftF]
  by_cases h3 : n < 0
  · rw [decide_eq_true h3, iftT, iftT]; exact ⟨_, rfl, .inl ⟨by omega, rfl⟩⟩
  rw [decide_eq_false h3, iftF]
  by_cases h4 : 1048576 < n
  · rw [decide_eq_true h4, iftT]; exact ⟨_, rfl, .inl ⟨by omega, rfl⟩⟩
  rw [decide_eq_false h4, iftF]
  have hk : 0 ≤ kind ∧ kind ≤ 4 := by omega
  unfold column_unnumbers column_unnumbers_j1
  by_cases hx : ∃ l, InR l ∧ (l.length : Int) = n ∧ enc kind l = b
  · obtain ⟨l, e1, e2, e3⟩ := hx
    have hl : l.length ≤ 1048576 := by omega
    rw [← e2, ← e3, c_back hl e1 hk, bnd_s]
    simp only
    rw [iftF, show (((l.length : Nat) : Int) != (l.length : Int)) = false by simp, iftF, has_out (by omega), inr_none.2 e1, bnd_s, Option.isSome_none, iftF, c_numbers (by omega) e1, bnd_s]
    unfold bytes_Equal
    rw [beq_self_eq_true, bnd_s, Bool.not_true, iftF, clip64, bnd_s, bnd_s]
    simp only
    rw [Bool.not_true, iftF]
    exact ⟨_, rfl, .inr ⟨by omega, .inl ⟨l, e1, rfl, rfl, rfl⟩⟩⟩
  · obtain ⟨r, er, hr⟩ := c_ends (N := b.length) (c := ⟨b, false⟩) ⟨hb, Nat.le_refl _⟩ (n := n) (by omega) kind
    have hlr := hr.2
    rw [er, bnd_s]
    have hno : ∀ l, InR l → (l.length : Int) = n → enc kind l ≠ b := fun l a1 a2 a3 => hx ⟨l, a1, a2, a3⟩
    refine ⟨([], 1), ?_, .inr ⟨by omega, .inr ⟨hno, rfl⟩⟩⟩
    cases r.2.bad with
    | true => rfl
    | false =>
      rw [iftF]
      by_cases hl : (r.1.length : Int) = n
      · rw [show ((r.1.length : Int) != n) = false by simp [hl], iftF, has_out (by omega), bnd_s]
        cases hf : first (fun j => outB (r.1.getD j 0)) 0 r.1.length with
        | some j => rfl
        | none =>
          have hR := inr_none.1 hf
          have hne := hno r.1 hR hl
          rw [Option.isSome_none, iftF, c_numbers (by omega) hR, bnd_s]
          unfold bytes_Equal
          rw [strn_eq (byts_enc (by omega) hR kind) hb, decide_eq_false hne]; rfl
      · rw [show ((r.1.length : Int) != n) = true by simp [hl], iftT]; rfl

/-! ### the laws -/

theorem packs_hold : law2_packs = some true := by
  have e : column_Pack 2 [1, 2, 3] = some ([57], 0) := by
    unfold column_Pack column_Pack_j1
    rw [show decide ((2 : Int) < 0) = false from rfl, show decide ((62 : Int) < 2) = false from rfl, ift_false, ift_false]
    have hc : slices_ContainsFunc_int_int_of_column_Pack_1 [1, 2, 3] (2 : Int) = some false := contains_eq (w := 2) (by decide) (l := [1, 2, 3]) (by decide)
    rw [hc, bnd_some', ift_false]
    have hF : Fits 2 [1, 2, 3] := ⟨by decide, by decide, by decide⟩
    obtain ⟨out, o1, o2⟩ := vpack hF
    have hI : Inv (srcL 2 [1, 2, 3]) (([1, 2, 3].length * 2 + 7) / 8) [57] ([1, 2, 3].length * 2) := ⟨by decide, fun e he => by simp at he; omega, by decide⟩
    have := inv_same o2 hI
    subst this
    have o1' : column_pack 2 [1, 2, 3] = some [57] := o1
    rw [o1']; rfl
  unfold law2_packs law2_packs_j1
  rw [e, bnd_some']
  unfold bytes_Equal
  simp only [beq_self_eq_true, ift_true, bnd_some']

theorem Rd.len {kind n : Int} {b : List Int} {r : List Int × Int} (h : Rd kind n b r) : r.1.length < 1000000000 := by
  rcases h with ⟨_, rfl⟩ | ⟨h0, ⟨l, _, h2, _, rfl⟩ | ⟨_, rfl⟩⟩
  · simp
  · simp only; omega
  · simp

theorem law_back (kind n : Int) (l b : List Int) (hl : l.length ≤ 1048576) (hb : byts b) : law2_ColumnNumbersComeBack kind n l b = some true := by
  have hj2 : law2_ColumnNumbersComeBack_j2 kind n b = some true := by
    obtain ⟨r, r1, r2⟩ := c_Unnumbers hb kind n
    unfold law2_ColumnNumbersComeBack_j2 law2_ColumnNumbersComeBack_j3
    rw [r1, bnd_s]
    rcases r2 with ⟨_, rfl⟩ | ⟨h0, ⟨m, h1, h2, h3, rfl⟩ | ⟨_, rfl⟩⟩
    · rfl
    · simp only
      rw [show ((0 : Int) != 0) = false from rfl, iftF, c_Numbers (by omega)]
      unfold wr
      rw [if_pos ⟨by omega, h1⟩, bnd_s]
      simp only
      rw [beq_self_eq_true, iftT, h2, beq_self_eq_true, iftT, h3]
      unfold bytes_Equal
      rw [beq_self_eq_true, bnd_s]
    · rfl
  unfold law2_ColumnNumbersComeBack
  rw [packs_hold, bnd_s, Bool.not_true, iftF, c_Numbers (by omega), bnd_s]
  unfold wr
  by_cases h : (0 ≤ kind ∧ kind ≤ 4) ∧ InR l
  · rw [if_pos h]
    simp only
    rw [beq_self_eq_true, iftT]
    obtain ⟨r, r1, r2⟩ := c_Unnumbers (byts_enc (by omega) h.2 kind) kind (l.length : Int)
    have hr : r = (l, 0) := r2.uniq (.inr ⟨by omega, .inl ⟨l, h.2, rfl, rfl, rfl⟩⟩)
    subst hr
    rw [r1, bnd_s]
    simp only
    rw [show ((0 : Int) != 0) = false from rfl, iftF, ints_refl l (by omega), bnd_s, Bool.not_true]
    unfold law2_ColumnNumbersComeBack_j1
    rw [iftF, hj2]
  · rw [if_neg h]
    simp only
    rw [show ((3 : Int) == 0) = false from rfl, iftF, hj2]

end Go.Proofs.Ytmaemlebpjnmoaa
