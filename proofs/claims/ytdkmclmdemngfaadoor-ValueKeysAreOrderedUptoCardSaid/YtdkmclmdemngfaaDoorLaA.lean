/- The calendar, in plain integers. What needs no program: searches, bytes, sizes, words, digits. Sound of both sides. Values and types as they are read. The reference's integers: their digits. The reference's integers: differences, quotients, rounding. Numbers of 256 bits: what each operation of the program computes, as equations. Division of numbers of 256 bits, rounding, and values made of them. The reference's integers, in plain terms. The reference's integers: sums, products, quotients, values made of them. Values made of numbers on both sides; Round. Keys and hashes: the same bytes on both sides. Order of values, and of the bytes of their keys. Compare, hashes, and the law of ordered keys. The law of ordered keys. -/
import Derived.Lib.ValidU
import Derived.Test.YtdkmclmdemngfaaDoorGeB
namespace Go.SX.Cal
open Go
set_option linter.unusedVariables false

theorem w64 {x : Int} (h1 : -9223372036854775808 ≤ x) (h2 : x ≤ 9223372036854775807) : IntKind.i64.wrap x = x := by
 simp only [IntKind.wrap, IntKind.bits, IntKind.signed]
 simp only [Bool.true_and, decide_eq_true_eq, ge_iff_le]
 split <;> omega

/-! ### years of an era -/

def S (y : Int) : Int := 365 * y + y / 4 - y / 100
def F (r : Int) : Int := r - r / 1460 + r / 36524
def leap (y : Int) : Prop := y % 4 = 0 ∧ (y % 100 ≠ 0 ∨ y % 400 = 0)

instance (y : Int) : Decidable (leap y) := by unfold leap; infer_instance

/-! ### days -/

def E (y : Int) : Int := y / 400 * 146097 + S (y % 400) - 719468

end Go.SX.Cal
namespace Go.SX.Cal
open Go Go.SX Go.Lib
set_option linter.unusedVariables false
set_option linter.unusedSimpArgs false

theorem ift_true {β : Type} (x y : Option β) : ift true x y = x := rfl
theorem ift_false {β : Type} (x y : Option β) : ift false x y = y := rfl
theorem ift_ite {β : Type} (b : Bool) (x y : Option β) : ift b x y = if b = true then x else y := by cases b <;> rfl
theorem big_val : BIG = 1152921504606846976 := rfl

def first (P : Nat → Bool) (i n : Nat) : Option Nat := (List.range' i (n - i)).find? P

theorem first_step {P : Nat → Bool} {i n : Nat} (h : i < n) : first P i n = if P i = true then some i else first P (i + 1) n := by
 unfold first
 rw [show n - i = (n - (i + 1)) + 1 by omega, List.range'_succ, List.find?_cons]
 cases hp : P i <;> simp [hp]

theorem first_end {P : Nat → Bool} {n : Nat} : first P n n = none := by simp [first]

theorem first_none {P : Nat → Bool} {i n : Nat} : first P i n = none ↔ ∀ j, i ≤ j → j < n → P j = false := by
 unfold first
 rw [List.find?_eq_none]
 constructor
 ·intro h j h1 h2
  have := h j (by rw [List.mem_range'_1]; omega)
  simpa using this
 ·intro h j hj
  rw [List.mem_range'_1] at hj
  have := h j (by omega) (by omega)
  simp [this]

theorem search {β : Type} {f : Nat → Nat → Option β} {n : Nat} {P : Nat → Bool} {A : Nat → Option β} {B : Option β} (hstep : ∀ k i, i < n → f (k + 1) i = if P i = true then A i else f k (i + 1)) (hend : ∀ k, f (k + 1) n = B) :
  ∀ k i, i ≤ n → n - i < k → f k i = (first P i n).elim B A := by
 intro k
 induction k with
 | zero => intro i _ h; omega
 | succ k ih =>
  intro i hi hk
  by_cases h : i = n
  ·subst h
   rw [hend, first_end]; rfl
  ·rw [hstep k i (by omega), first_step (by omega)]
   by_cases hp : P i = true
   ·simp [hp]
   ·simp only [hp, if_false]
    exact ih (i + 1) (by omega) (by omega)

def byt (s : ByteArray) (i : Nat) : Nat := (s.data.toList.getD i 0).toNat

theorem get_byt (s : ByteArray) (i : Nat) (h : i < s.size) : (s.get! i).toNat = byt s i := by
 unfold byt
 have h' : i < s.data.size := h
 have : s.get! i = s.data.toList.getD i 0 := by
  simp only [ByteArray.get!, List.getD, Array.getElem?_toList]
  rw [getElem!_pos s.data i h', Array.getElem?_eq_getElem h']; rfl
 rw [this]

theorem decode_lo (s : ByteArray) (i : Nat) (h : i < s.size) (hb : byt s i < 128) : Utf8.decode s i = (byt s i, 1) := by
 have e := get_byt s i h
 unfold Utf8.decode
 simp [e, hb]

theorem decode_hi (s : ByteArray) (i : Nat) (h : i < s.size) (hb : ¬ byt s i < 128) : 128 ≤ (Utf8.decode s i).1 := by
 have e := get_byt s i h
 unfold Utf8.decode
 simp only [Nat.add_zero, e, if_neg hb, Utf8.runeError]
 repeat' split
 all_goals simp_all
 all_goals omega

theorem size_zero (s : ByteArray) : (s.toList == (ByteArray.mk #[]).toList) = decide (s.size = 0) := by
 rw [ByteArray.toList_eq, ByteArray.toList_eq, Bool.eq_iff_iff]
 show (s.data.toList == []) = true ↔ decide (s.data.size = 0) = true
 rw [← Array.length_toList]
 cases s.data.toList <;> simp

theorem wrap_succ {i n : Nat} (h : i < n) (hn : n < 1000000000) : IntKind.i64.wrap ((i : Int) + 1) = ((i + 1 : Nat) : Int) := by rw [w64 (by omega) (by omega)]; omega

theorem at_nat {α : Type} {xs : List α} {i : Nat} (h : i < xs.length) : at? xs (i : Int) = some xs[i] := by unfold at?; simp [h]

theorem dec_lt {i n : Nat} (h : i < n) : decide ((i : Int) < (n : Int)) = true := by simp [h]

mutual
def sizeV : GValue → Nat
 | ⟨_, _, _, s, it⟩ => s.size + sizeL it + 1
def sizeL : List GValue → Nat
 | [] => 0
 | x :: l => sizeV x + sizeL l
end

theorem sizeV_eq : ∀ v : GValue, sizeV v = v.s.size + sizeL v.items + 1
 | ⟨_, _, _, _, _⟩ => by simp only [sizeV]

theorem sizeL_mem : ∀ {l : List GValue} {x : GValue}, x ∈ l → sizeV x ≤ sizeL l
 | [], _, h => by cases h
 | y :: l, x, h => by
  simp only [sizeL]
  rcases List.mem_cons.1 h with rfl | h
  ·omega
  ·have := sizeL_mem h; omega

theorem sizeV_pos : ∀ v : GValue, 1 ≤ sizeV v
 | ⟨_, _, _, _, _⟩ => by simp only [sizeV]; omega

theorem sizeL_len : ∀ l : List GValue, l.length ≤ sizeL l
 | [] => by simp [sizeL]
 | x :: l => by
  have := sizeL_len l
  have := sizeV_pos x
  simp only [sizeL, List.length_cons]; omega

theorem ift_and (b x : Bool) : ift b (some x) (some false) = some (b && x) := by cases b <;> rfl
theorem bnd_some' {α β : Type} (a : α) (f : α → Option β) : bnd (some a) f = f a := rfl

theorem first_skip {P : Nat → Bool} {n : Nat} : ∀ (d i : Nat), i + d ≤ n → (∀ j, i ≤ j → j < i + d → P j = false) → first P i n = first P (i + d) n
 | 0, i, _, _ => rfl
 | d + 1, i, h, hP => by
  rw [first_step (by omega), hP i (by omega) (by omega)]
  simp only [Bool.false_eq_true, if_false]
  rw [first_skip d (i + 1) (by omega) (fun j h1 h2 => hP j (by omega) (by omega))]
  congr 1; omega

theorem decode_skip (s : ByteArray) (i : Nat) (h : i < s.size) (hb : ¬ byt s i < 128) :
  1 ≤ (Utf8.decode s i).2 ∧ i + (Utf8.decode s i).2 ≤ s.size ∧ ∀ j, i ≤ j → j < i + (Utf8.decode s i).2 → 128 ≤ byt s j := by
 have e := get_byt s i h
 have one : ∀ j, i ≤ j → j < i + 1 → 128 ≤ byt s j := fun j h1 h2 => by
  have : j = i := by omega
  subst this; omega
 have ct : ∀ k, (decide (i + k < s.size) && (s.get! (i + k)).toNat / 64 == 2) = true → i + k < s.size ∧ 128 ≤ byt s (i + k) := by
  intro k hk
  simp only [Bool.and_eq_true, decide_eq_true_eq, beq_iff_eq] at hk
  rw [get_byt s _ hk.1] at hk
  exact ⟨hk.1, by omega⟩
 unfold Utf8.decode
 simp only [Nat.add_zero, e, if_neg hb]
 split
 ·rename_i h1
  simp only [Bool.and_eq_true] at h1
  obtain ⟨l1, b1⟩ := ct 1 (by simpa using h1.2)
  split
  ·refine ⟨by simp, by simp only; omega, fun j h2 h3 => ?_⟩
   simp only at h3
   by_cases hj : j = i
   ·subst hj; omega
   ·have : j = i + 1 := by omega
    subst this; exact b1
  ·exact ⟨by simp, by simp only; omega, one⟩
 ·split
  ·rename_i h1
   simp only [Bool.and_eq_true] at h1
   obtain ⟨l1, b1⟩ := ct 1 (by simpa using h1.1.2)
   obtain ⟨l2, b2⟩ := ct 2 (by simpa using h1.2)
   split
   ·refine ⟨by simp, by simp only; omega, fun j h2 h3 => ?_⟩
    simp only at h3
    by_cases hj : j = i
    ·subst hj; omega
    ·by_cases hj : j = i + 1
     ·subst hj; exact b1
     ·have : j = i + 2 := by omega
      subst this; exact b2
   ·exact ⟨by simp, by simp only; omega, one⟩
  ·split
   ·rename_i h1
    simp only [Bool.and_eq_true] at h1
    obtain ⟨l1, b1⟩ := ct 1 (by simpa using h1.1.1.2)
    obtain ⟨l2, b2⟩ := ct 2 (by simpa using h1.1.2)
    obtain ⟨l3, b3⟩ := ct 3 (by simpa using h1.2)
    split
    ·refine ⟨by simp, by simp only; omega, fun j h2 h3 => ?_⟩
     simp only at h3
     by_cases hj : j = i
     ·subst hj; omega
     ·by_cases hj : j = i + 1
      ·subst hj; exact b1
      ·by_cases hj : j = i + 2
       ·subst hj; exact b2
       ·have : j = i + 3 := by omega
        subst this; exact b3
    ·exact ⟨by simp, by simp only; omega, one⟩
   ·exact ⟨by simp, by simp only; omega, one⟩

def ctl (s : ByteArray) (i : Nat) : Bool := decide (byt s i < 32) || byt s i == 127

theorem wu {x : Int} : IntKind.u64.wrap x = x % 18446744073709551616 := by
 simp only [IntKind.wrap, IntKind.bits, IntKind.signed]
 simp

structure W4 (w : GWide) : Prop where
 a0 : 0 ≤ w.size.1
 a1 : w.size.1 < 18446744073709551616
 b0 : 0 ≤ w.size.2.1
 b1 : w.size.2.1 < 18446744073709551616
 c0 : 0 ≤ w.size.2.2.1
 c1 : w.size.2.2.1 < 18446744073709551616
 d0 : 0 ≤ w.size.2.2.2
 d1 : w.size.2.2.2 < 18446744073709551616

def val (w : GWide) : Int := w.size.1 + w.size.2.1 * 18446744073709551616 + w.size.2.2.1 * 340282366920938463463374607431768211456 + w.size.2.2.2 * 6277101735386680763835789423207666416102355444464034512896

theorem mask32 {x : Int} (h0 : 0 ≤ x) (h1 : x < 18446744073709551616) : ((BitVec.ofInt (IntKind.u64).bits x &&& BitVec.ofInt (IntKind.u64).bits (4294967295 : Int)).toNat : Int) = x % 4294967296 := by
 have e : (BitVec.ofInt 64 x).toNat = x.toNat := by
  rw [BitVec.toNat_ofInt]
  have : x % ((2 ^ 64 : Nat) : Int) = x := by omega
  rw [this]
 have hand : (BitVec.ofInt 64 x &&& BitVec.ofInt 64 (4294967295 : Int)).toNat = x.toNat % 4294967296 := by
  rw [BitVec.toNat_and, e]
  have : (BitVec.ofInt 64 (4294967295 : Int)).toNat = 2 ^ 32 - 1 := by decide
  rw [this, Nat.and_two_pow_sub_one_eq_mod]
 show ((BitVec.ofInt 64 x &&& BitVec.ofInt 64 (4294967295 : Int)).toNat : Int) = _
 rw [hand]
 omega

theorem sh32 (x : Int) : x.fdiv (2 ^ (min (32 : Int).toNat (IntKind.u64).bits)) = x / 4294967296 := by
 have : (2 : Int) ^ (min (32 : Int).toNat (IntKind.u64).bits) = 4294967296 := by decide
 rw [this, Int.fdiv_eq_ediv_of_nonneg _ (by decide)]

theorem m64 {x : Int} (h0 : 0 ≤ x) (h1 : x < 18446744073709551616) : x % 18446744073709551616 = x := Int.emod_eq_of_lt h0 h1

theorem prod_bound {a b : Int} (a0 : 0 ≤ a) (a1 : a < 4294967296) (b0 : 0 ≤ b) (b1 : b < 4294967296) : 0 ≤ a * b ∧ a * b ≤ 18446744065119617025 := by
 refine ⟨Int.mul_nonneg a0 b0, ?_⟩
 have h1 : a * b ≤ 4294967295 * b := Int.mul_le_mul_of_nonneg_right (by omega) b0
 omega

theorem word_step {x n c : Int} (h0 : 0 ≤ x) (h1 : x < 18446744073709551616) (n0 : 0 ≤ n) (n1 : n < 18446744073709551616) (c0 : 0 ≤ c) (c1 : c < 18446744073709551616) :
  (x * n / 18446744073709551616 + (x * n % 18446744073709551616 + c) / 18446744073709551616) % 18446744073709551616 = (x * n + c) / 18446744073709551616 ∧ (x * n % 18446744073709551616 + c) % 18446744073709551616 = (x * n + c) % 18446744073709551616 ∧ 0 ≤ (x * n + c) / 18446744073709551616 ∧ (x * n + c) / 18446744073709551616 < 18446744073709551616 := by
 have hp : 0 ≤ x * n := Int.mul_nonneg h0 n0
 have hq : x * n ≤ 18446744073709551615 * n := Int.mul_le_mul_of_nonneg_right (by omega) n0
 have hq2 : (18446744073709551615 : Int) * n ≤ 18446744073709551615 * 18446744073709551615 := Int.mul_le_mul_of_nonneg_left (by omega) (by decide)
 have hb : x * n ≤ 340282366920938463426481119284349108225 := by
  refine Int.le_trans hq (Int.le_trans hq2 (by decide))
 generalize x * n = p at *
 omega

def p10 : Nat → Int
 | 0 => 1
 | k + 1 => p10 k * 10

theorem p10_pos : ∀ k, 1 ≤ p10 k
 | 0 => by decide
 | k + 1 => by have := p10_pos k; simp only [p10]; omega

def c3 (a b : Int) : Int := if a < b then -1 else if b < a then 1 else 0

theorem bool_ne (n m : Bool) (h : ¬ n = m) : (!(n == m)) = true ∧ (!m) = n := by revert h; cases n <;> cases m <;> simp

def dval : List Int → Int
 | [] => 0
 | d :: l => d + 10 * dval l

def digs (l : List Int) : Prop := ∀ d ∈ l, 0 ≤ d ∧ d ≤ 9

def top (l : List Int) : Prop := ∀ d, l.getLast? = some d → d ≠ 0

theorem dval_nonneg : ∀ {l : List Int}, digs l → 0 ≤ dval l
 | [], _ => by simp [dval]
 | d :: l, h => by
  have h1 := h d (by simp)
  have h2 := dval_nonneg (l := l) (fun x hx => h x (by simp [hx]))
  simp only [dval]; omega

theorem p10n : ∀ n, 0 < p10 n := fun n => by have := p10_pos n; omega

theorem dval_lt : ∀ {l : List Int}, digs l → dval l < p10 l.length
 | [], _ => by simp [dval, p10]
 | d :: l, h => by
  have h1 := h d (by simp)
  have h2 := dval_lt (l := l) (fun x hx => h x (by simp [hx]))
  simp only [dval, List.length_cons, p10]; omega

theorem dval_ge : ∀ {l : List Int}, digs l → top l → l ≠ [] → p10 (l.length - 1) ≤ dval l
 | [], _, _, h => absurd rfl h
 | [d], h, ht, _ => by
  have h1 := h d (by simp)
  have h2 := ht d (by simp)
  simp [dval, p10]; omega
 | d :: e :: l, h, ht, _ => by
  have h1 := h d (by simp)
  have h2 := dval_ge (l := e :: l) (fun x hx => h x (by simp [hx])) (fun x hx => ht x (by simpa using hx)) (by simp)
  simp only [List.length_cons] at h2 ⊢
  rw [show l.length + 1 + 1 - 1 = (l.length + 1 - 1) + 1 by omega]
  simp only [p10]
  rw [dval]
  omega

theorem p10_mono {m n : Nat} (h : m ≤ n) : p10 m ≤ p10 n := by
 induction n with
 | zero =>
   have : m = 0 := by omega
   subst this; exact Int.le_refl _
 | succ n ih =>
  by_cases e : m = n + 1
  ·subst e; exact Int.le_refl _
  ·have h1 := ih (by omega)
   have h2 := p10n n
   simp only [p10]; omega

end Go.SX.Cal
namespace Go.Proofs.YtdkmclmdemngfaaDoor
open Go Go.SX Go.SX.Cal Go.Lib
set_option linter.unusedVariables false
set_option linter.unusedSimpArgs false

theorem vtext_loop (s : ByteArray) : ∀ k i, i ≤ s.size → s.size - i < k → value_text_l1 s k i = some (first (ctl s) i s.size).isNone := by
 intro k
 induction k with
 | zero => intro i _ h; omega
 | succ k ih =>
  intro i hi hk
  rw [value_text_l1]
  by_cases h : i = s.size
  ·subst h
   rw [first_end]
   simp only [Nat.lt_irrefl, decide_false, ift_false, value_text_j3]
   rfl
  ·have hlt : i < s.size := by omega
   simp only [hlt, decide_true, ift_true, value_text_j2, ift_ite]
   by_cases hb : byt s i < 128
   ·rw [decode_lo s i hlt hb, first_step hlt]
    by_cases h1 : byt s i < 32
    ·have : ctl s i = true := by simp [ctl, h1]
     simp [this, show ((byt s i : Nat) : Int) < 32 by omega]
    ·have e1 : ¬ ((byt s i : Nat) : Int) < 32 := by omega
     by_cases h2 : byt s i = 127
     ·have : ctl s i = true := by simp [ctl, h2]
      simp [this, h2]
     ·have : ctl s i = false := by simp [ctl, h1, h2]
      have e2 : ¬ ((byt s i : Nat) : Int) = 127 := by omega
      simp only [this, Int.ofNat_eq_natCast, e1, decide_false, Bool.false_eq_true, if_false, beq_iff_eq, e2]
      exact ih (i + 1) (by omega) (by omega)
   ·have h1 := decode_hi s i hlt hb
    obtain ⟨h2, h3, h4⟩ := decode_skip s i hlt hb
    have e1 : ¬ (((Utf8.decode s i).1 : Nat) : Int) < 32 := by omega
    have e2 : ¬ (((Utf8.decode s i).1 : Nat) : Int) = 127 := by omega
    simp only [Int.ofNat_eq_natCast, e1, decide_false, Bool.false_eq_true, if_false, beq_iff_eq, e2]
    rw [ih _ h3 (by omega), first_skip _ i h3 (fun j a b => by
     have := h4 j a b
     simp only [ctl, Bool.or_eq_false_iff, decide_eq_false_iff_not, beq_eq_false_iff_ne]
     omega)]
    simp

theorem rchar_loop (s : ByteArray) (hs : s.size < 1000000000) : ∀ k i, i ≤ s.size → s.size - i < k → ref1_characters_l1 s k (i : Int) = some (first (ctl s) i s.size).isNone := by
 intro k
 induction k with
 | zero => intro i _ h; omega
 | succ k ih =>
  intro i hi hk
  rw [ref1_characters_l1]
  by_cases h : i = s.size
  ·subst h
   rw [first_end]
   simp only [Int.lt_irrefl, decide_false, ift_false, ref1_characters_j3]
   rfl
  ·have hlt : i < s.size := by omega
   have g : (0 : Int) ≤ (i : Int) ∧ (i : Int) < (s.size : Int) := ⟨by omega, by omega⟩
   have e : ((s.data.toList.getD (i : Int).toNat 0).toNat : Int) = (byt s i : Int) := by simp [byt]
   simp only [dec_lt hlt, ift_true, grd, if_pos g, bnd_some', ref1_characters_j2, ift_ite, e]
   rw [first_step hlt, wrap_succ hlt hs]
   by_cases h1 : byt s i < 32
   ·have : ctl s i = true := by simp [ctl, h1]
    simp [this, show ((byt s i : Nat) : Int) < 32 by omega]
   ·have e1 : ¬ ((byt s i : Nat) : Int) < 32 := by omega
    by_cases h2 : byt s i = 127
    ·have : ctl s i = true := by simp [ctl, h2]
     simp [this, h2]
    ·have : ctl s i = false := by simp [ctl, h1, h2]
     have e2 : ¬ ((byt s i : Nat) : Int) = 127 := by omega
     simp only [this, e1, decide_false, Bool.false_eq_true, if_false, beq_iff_eq, e2]
     exact ih (i + 1) (by omega) (by omega)

def textOk (s : ByteArray) : Bool := decide (s.size ≤ 256) && (validD s.data.toList && (first (ctl s) 0 s.size).isNone)

theorem validS (s : ByteArray) (hs : s.size < 1000000000) : utf8_ValidString s = some (validD s.data.toList) := by
 unfold utf8_ValidString grd
 rw [if_pos (by omega)]

theorem vText (s : ByteArray) (hs : s.size < 1000000000) : value_text s = some (textOk s) := by
 unfold value_text value_text_j1 textOk
 rw [validS s hs, vtext_loop s BIG 0 (by omega) (by rw [big_val]; omega)]
 by_cases h : s.size ≤ 256
 ·have : ¬ (256 : Int) < (s.size : Int) := by omega
  simp only [this, h, decide_false, decide_true, ift_false, bnd_some']
  cases validD s.data.toList <;> rfl
 ·have : (256 : Int) < (s.size : Int) := by omega
  simp only [this, h, decide_false, decide_true, ift_true]
  rfl

theorem rChars (s : ByteArray) (hs : s.size < 1000000000) : ref1_characters s = some (textOk s) := by
 have := rchar_loop s hs BIG 0 (by omega) (by rw [big_val]; omega)
 unfold ref1_characters ref1_characters_j1 textOk
 rw [validS s hs, show (0 : Int) = ((0 : Nat) : Int) from rfl, this]
 by_cases h : s.size ≤ 256
 ·have e : ¬ (256 : Int) < (s.size : Int) := by omega
  simp only [e, h, decide_false, decide_true, bnd_some']
  cases validD s.data.toList <;> rfl
 ·have e : (256 : Int) < (s.size : Int) := by omega
  simp only [e, h, decide_false, decide_true, bnd_some']
  cases validD s.data.toList <;> rfl

theorem vWithin (a b c : Int) : value_within a b c = some (decide (b ≤ a) && decide (a ≤ c)) := by
 unfold value_within value_within_j1; exact ift_and _ _
theorem rWithin (a b c : Int) : ref1_within a b c = some (decide (b ≤ a) && decide (a ≤ c)) := by
 unfold ref1_within ref1_within_j1; exact ift_and _ _

def plainOk (v : GValue) : Bool :=
 let bare := v.n == 0 && v.scale == 0
 let noS := decide (v.s.size = 0)
 let noI := ((v.items.length : Int) == 0)
 if v.kind = 0 then bare && (noS && noI)
 else if v.kind = 1 then (decide (0 ≤ v.n) && decide (v.n ≤ 1)) && (v.scale == 0 && (noS && noI))
 else if v.kind = 2 then (decide (-999999999999999999 ≤ v.n) && decide (v.n ≤ 999999999999999999)) && (v.scale == 0 && (noS && noI))
 else if v.kind = 3 then (decide (-999999999999999999 ≤ v.n) && decide (v.n ≤ 999999999999999999)) && ((decide (0 ≤ v.scale) && decide (v.scale ≤ 12)) && (noS && noI))
 else if v.kind = 4 then bare && (textOk v.s && noI)
 else if v.kind = 5 then (decide (-62135596800 ≤ v.n) && decide (v.n ≤ 253402300799)) && (v.scale == 0 && (noS && noI))
 else if v.kind = 6 then bare && (noS && decide ((v.items.length : Int) ≤ 64))
 else if v.kind = 7 then bare && (noS && decide ((0 : Int) < (v.items.length : Int)))
 else false

theorem vPlain (v : GValue) (hs : v.s.size < 1000000000) : value_plain v = some (plainOk v) := by
 have j : ∀ x, value_plain_j1 v x = some (if v.kind = 0 then x && (decide (v.s.size = 0) && ((v.items.length : Int) == 0))
   else if v.kind = 1 then (decide (0 ≤ v.n) && decide (v.n ≤ 1)) && (v.scale == 0 && (decide (v.s.size = 0) && ((v.items.length : Int) == 0)))
   else if v.kind = 2 then (decide (-999999999999999999 ≤ v.n) && decide (v.n ≤ 999999999999999999)) && (v.scale == 0 && (decide (v.s.size = 0) && ((v.items.length : Int) == 0)))
   else if v.kind = 3 then (decide (-999999999999999999 ≤ v.n) && decide (v.n ≤ 999999999999999999)) && ((decide (0 ≤ v.scale) && decide (v.scale ≤ 12)) && (decide (v.s.size = 0) && ((v.items.length : Int) == 0)))
   else if v.kind = 4 then x && (textOk v.s && ((v.items.length : Int) == 0))
   else if v.kind = 5 then (decide (-62135596800 ≤ v.n) && decide (v.n ≤ 253402300799)) && (v.scale == 0 && (decide (v.s.size = 0) && ((v.items.length : Int) == 0)))
   else if v.kind = 6 then x && (decide (v.s.size = 0) && decide ((v.items.length : Int) ≤ 64))
   else if v.kind = 7 then x && (decide (v.s.size = 0) && decide ((0 : Int) < (v.items.length : Int)))
   else false) := by
  intro x
  unfold value_plain_j1 value_plain_j2 value_plain_j3 value_plain_j4 value_plain_j5 value_plain_j6 value_plain_j7 value_plain_j8 value_plain_j9
  simp only [vWithin, vText v.s hs, bnd_some', ift_and, size_zero]
  simp only [ift_ite, beq_iff_eq]
  repeat' split
  all_goals (first | rfl | simp_all)
 unfold value_plain
 rw [j, j]
 unfold plainOk
 cases v.n == 0
 ·simp only [ift_false, Bool.false_and]
 ·simp only [ift_true, Bool.true_and]

theorem rAlone (v : GValue) (hs : v.s.size < 1000000000) : ref1_alone v = some (plainOk v) := by
 have j : ∀ x, ref1_alone_j1 v x = some (if v.kind = 0 then x && (v.n == 0 && v.scale == 0)
   else if v.kind = 1 then x && ((decide (0 ≤ v.n) && decide (v.n ≤ 1)) && v.scale == 0)
   else if v.kind = 2 then x && ((decide (-999999999999999999 ≤ v.n) && decide (v.n ≤ 999999999999999999)) && v.scale == 0)
   else if v.kind = 3 then x && ((decide (-999999999999999999 ≤ v.n) && decide (v.n ≤ 999999999999999999)) && (decide (0 ≤ v.scale) && decide (v.scale ≤ 12)))
   else if v.kind = 4 then ((v.items.length : Int) == 0) && (v.n == 0 && (v.scale == 0 && textOk v.s))
   else if v.kind = 5 then x && ((decide (-62135596800 ≤ v.n) && decide (v.n ≤ 253402300799)) && v.scale == 0)
   else if v.kind = 6 then decide (v.s.size = 0) && (v.n == 0 && (v.scale == 0 && decide ((v.items.length : Int) ≤ 64)))
   else if v.kind = 7 then decide (v.s.size = 0) && (v.n == 0 && (v.scale == 0 && decide ((0 : Int) < (v.items.length : Int))))
   else false) := by
  intro x
  unfold ref1_alone_j1 ref1_alone_j2 ref1_alone_j3 ref1_alone_j4 ref1_alone_j5 ref1_alone_j6 ref1_alone_j7 ref1_alone_j8 ref1_alone_j9
  simp only [rWithin, rChars v.s hs, bnd_some', ift_and, size_zero]
  simp only [ift_ite, beq_iff_eq]
  repeat' split
  all_goals (first | rfl | simp_all)
 unfold ref1_alone
 rw [j, j, size_zero]
 unfold plainOk
 generalize decide (v.s.size = 0) = a
 generalize ((v.items.length : Int) == 0) = b
 generalize textOk v.s = t
 generalize (v.n == 0) = c
 generalize (v.scale == 0) = d
 generalize (decide (0 ≤ v.n) && decide (v.n ≤ 1)) = e1
 generalize (decide (-999999999999999999 ≤ v.n) && decide (v.n ≤ 999999999999999999)) = e2
 generalize (decide (0 ≤ v.scale) && decide (v.scale ≤ 12)) = e3
 generalize (decide (-62135596800 ≤ v.n) && decide (v.n ≤ 253402300799)) = e4
 generalize decide ((v.items.length : Int) ≤ 64) = e5
 generalize decide ((0 : Int) < (v.items.length : Int)) = e6
 cases a <;> simp only [ift_false, ift_true] <;> congr 1 <;> repeat' split
 all_goals (first | rfl | (cases b <;> cases c <;> cases d <;> simp <;> done) | (simp [Bool.and_comm, Bool.and_assoc, Bool.and_left_comm]))

def soundL (f : GValue → Int → Bool × Int) : List GValue → Int → Bool × Int
 | [], z => (true, z)
 | v :: l, z => if (f v z).1 = true then soundL f l (f v z).2 else (false, (f v z).2)

def cnt (v : GValue) (z : Int) : Int := if v.kind = 0 then z else z + 1

def soundD : Nat → GValue → Int → Bool × Int
 | 0, v, z => (false, cnt v z)
 | d + 1, v, z => if 256 < cnt v z ∨ plainOk v = false then (false, cnt v z) else soundL (soundD d) v.items (cnt v z)

def soundB (v : GValue) : Bool := (soundD 4 v 0).1

theorem soundL_le {f : GValue → Int → Bool × Int} : ∀ {l : List GValue} {z : Int}, (∀ v ∈ l, ∀ z, 0 ≤ z → z ≤ 256 → 0 ≤ (f v z).2 ∧ (f v z).2 ≤ 257 ∧ ((f v z).1 = true → (f v z).2 ≤ 256)) → 0 ≤ z → z ≤ 256 →
  0 ≤ (soundL f l z).2 ∧ (soundL f l z).2 ≤ 257 ∧ ((soundL f l z).1 = true → (soundL f l z).2 ≤ 256)
 | [], z, _, h0, h1 => by simp only [soundL]; omega
 | v :: l, z, hf, h0, h1 => by
  obtain ⟨a, b, c⟩ := hf v (by simp) z h0 h1
  simp only [soundL]
  split
  ·rename_i h
   exact soundL_le (fun x hx => hf x (by simp [hx])) a (c h)
  ·exact ⟨a, b, fun h => by cases h⟩

theorem soundD_le : ∀ (d : Nat) (v : GValue) (z : Int), 0 ≤ z → z ≤ 256 → 0 ≤ (soundD d v z).2 ∧ (soundD d v z).2 ≤ 257 ∧ ((soundD d v z).1 = true → (soundD d v z).2 ≤ 256)
 | 0, v, z, h0, h1 => by
  have hc : z ≤ cnt v z ∧ cnt v z ≤ z + 1 := by unfold cnt; split <;> omega
  simp only [soundD]
  exact ⟨by omega, by omega, fun h => by cases h⟩
 | d + 1, v, z, h0, h1 => by
  have hc : z ≤ cnt v z ∧ cnt v z ≤ z + 1 := by unfold cnt; split <;> omega
  simp only [soundD]
  split
  ·exact ⟨by omega, by omega, fun h => by cases h⟩
  ·rename_i h
   have : ¬ 256 < cnt v z := fun e => h (.inl e)
   exact soundL_le (fun x _ => soundD_le d x) (by omega) (by omega)

theorem cnt_wrap (v : GValue) (z : Int) (h0 : 0 ≤ z) (h1 : z ≤ 256) {β : Type} (f : Int → Option β) : ift (v.kind != (0 : Int)) (f (IntKind.i64.wrap (z + 1))) (f z) = f (cnt v z) := by
 rw [w64 (by omega) (by omega)]
 unfold cnt
 by_cases h : v.kind = 0
 ·simp [h, ift_ite]
 ·simp [h, ift_ite]

theorem vsound_loop {d : Nat} (l : Int) (q : GValue → Int → Int → Option (Bool × Int)) (xs : List GValue) (hl : xs.length < 1000000000)
  (hq : ∀ v ∈ xs, ∀ z, 0 ≤ z → z ≤ 256 → q v l z = some (!(soundD d v z).1, (soundD d v z).2)) : ∀ (k i : Nat) (z : Int), i ≤ xs.length → xs.length - i < k → 0 ≤ z → z ≤ 256 →
  ∃ r : Int, slices_IndexFunc_api_Value_api_Value_of_value_sound_1_l1 q xs l k z (i : Int) = some (r, (soundL (soundD d) (xs.drop i) z).2) ∧ decide (0 ≤ r) = !(soundL (soundD d) (xs.drop i) z).1 := by
 intro k
 induction k with
 | zero => intro i z _ h; omega
 | succ k ih =>
  intro i z hi hk h0 h1
  rw [slices_IndexFunc_api_Value_api_Value_of_value_sound_1_l1]
  by_cases h : i = xs.length
  ·subst h
   simp only [Int.lt_irrefl, decide_false, ift_false, List.drop_length, soundL, slices_IndexFunc_api_Value_api_Value_of_value_sound_1_j1]
   exact ⟨-1, rfl, rfl⟩
  ·have hlt : i < xs.length := by omega
   have hm : xs[i] ∈ xs := List.getElem_mem hlt
   simp only [dec_lt hlt, ift_true, at_nat hlt, bnd_some', hq _ hm z h0 h1]
   rw [List.drop_eq_getElem_cons hlt]
   simp only [soundL]
   obtain ⟨a, b, c⟩ := soundD_le d xs[i] z h0 h1
   cases hs : (soundD d xs[i] z).1 with
   | false =>
    simp only [Bool.not_false, ift_true, Bool.false_eq_true, if_false]
    exact ⟨_, rfl, by simp⟩
   | true =>
    simp only [Bool.not_true, ift_false, if_true]
    rw [wrap_succ hlt hl]
    exact ih (i + 1) _ (by omega) (by omega) a (c hs)

theorem vsound_eq : ∀ (d k : Nat) (v : GValue) (z : Int), d ≤ 4 → 4 * d + 4 ≤ k → sizeV v < 1000000000 → 0 ≤ z → z ≤ 256 → value_sound k v (5 - d : Int) z = some (soundD d v z) := by
 intro d
 induction d with
 | zero =>
  intro k v z _ hk hs h0 h1
  obtain ⟨k, rfl⟩ : ∃ q, k = q + 1 := ⟨k - 1, by omega⟩
  rw [value_sound, cnt_wrap v z h0 h1]
  unfold value_sound_j1 value_sound_j2
  simp [soundD, ift_true]
 | succ d ih =>
  intro k v z hd hk hs h0 h1
  obtain ⟨k, rfl⟩ : ∃ q, k = q + 4 := ⟨k - 4, by omega⟩
  have hsz := sizeV_eq v
  have hlen := sizeL_len v.items
  rw [value_sound, cnt_wrap v z h0 h1]
  unfold value_sound_j1 value_sound_j2
  rw [vPlain v (by omega)]
  have e4 : ¬ (4 : Int) < 5 - ((d + 1 : Nat) : Int) := by omega
  have hc : z ≤ cnt v z ∧ cnt v z ≤ z + 1 := by unfold cnt; split <;> omega
  simp only [e4, decide_false, ift_false, soundD, bnd_some']
  by_cases h2 : (256 : Int) < cnt v z
  ·simp [h2, ift_true]
  ·cases hp : plainOk v with
   | false => simp [h2, ift_true, ift_false]
   | true =>
    simp only [h2, decide_false, ift_false, Bool.not_true, false_or, Bool.true_eq_false, if_false]
    have := vsound_loop (d := d) (5 - ((d + 1 : Nat) : Int)) (value_sound_1_s (k + 1)) v.items (by omega) (by
     intro x hx z h0 h1
     have := sizeL_mem hx
     rw [value_sound_1_s, w64 (by omega) (by omega), show (5 - ((d + 1 : Nat) : Int) + 1) = 5 - (d : Int) by omega, ih k x z (by omega) (by omega) (by omega) h0 h1]
     rfl) BIG 0 (cnt v z) (by omega) (by rw [big_val]; omega) (by omega) (by omega)
    obtain ⟨r, e1, e2⟩ := this
    rw [show ((0 : Nat) : Int) = (0 : Int) from rfl] at e1
    rw [slices_ContainsFunc_api_Value_api_Value_of_value_sound_1, slices_IndexFunc_api_Value_api_Value_of_value_sound_1, e1]
    simp only [bnd_some', e2, List.drop_zero, Bool.not_not]

theorem vSound (v : GValue) (hs : sizeV v < 1000000000) : value_Sound v = some (soundB v) := by
 unfold value_Sound soundB
 have := vsound_eq 4 BIG v 0 (by omega) (by rw [big_val]; omega) hs (by omega) (by omega)
 rw [show (5 - ((4 : Nat) : Int)) = (1 : Int) from rfl] at this
 rw [this]; rfl

theorem rsound_loop {d : Nat} (l : Int) (hl0 : 0 ≤ l) (hl1 : l ≤ 100) (q : GValue → Int → Int → Option (Bool × Int)) (v : GValue) (hl : v.items.length < 1000000000)
  (hq : ∀ x ∈ v.items, ∀ z, 0 ≤ z → z ≤ 256 → q x (l + 1) z = some (soundD d x z)) : ∀ (k i : Nat) (z : Int), i ≤ v.items.length → v.items.length - i < k → 0 ≤ z → z ≤ 256 →
  ref1_sound_l1 q v l k z (i : Int) = some (soundL (soundD d) (v.items.drop i) z) := by
 intro k
 induction k with
 | zero => intro i z _ h; omega
 | succ k ih =>
  intro i z hi hk h0 h1
  rw [ref1_sound_l1]
  by_cases h : i = v.items.length
  ·subst h
   simp only [Int.lt_irrefl, decide_false, ift_false, List.drop_length, soundL, ref1_sound_j3]
  ·have hlt : i < v.items.length := by omega
   have hm : v.items[i] ∈ v.items := List.getElem_mem hlt
   rw [w64 (x := l + 1) (by omega) (by omega)]
   simp only [dec_lt hlt, ift_true, at_nat hlt, bnd_some', hq _ hm z h0 h1]
   rw [List.drop_eq_getElem_cons hlt]
   simp only [soundL]
   obtain ⟨a, b, c⟩ := soundD_le d v.items[i] z h0 h1
   cases hs : (soundD d v.items[i] z).1 with
   | false => simp only [Bool.not_false, ift_true, Bool.false_eq_true, if_false]
   | true =>
    simp only [Bool.not_true, ift_false, if_true]
    rw [wrap_succ hlt hl]
    exact ih (i + 1) _ (by omega) (by omega) a (c hs)

theorem rsound_eq : ∀ (d k : Nat) (v : GValue) (z : Int), d ≤ 4 → d + 1 ≤ k → sizeV v < 1000000000 → 0 ≤ z → z ≤ 256 → ref1_sound k v (5 - d : Int) z = some (soundD d v z) := by
 intro d
 induction d with
 | zero =>
  intro k v z _ hk hs h0 h1
  obtain ⟨k, rfl⟩ : ∃ q, k = q + 1 := ⟨k - 1, by omega⟩
  rw [ref1_sound, cnt_wrap v z h0 h1]
  unfold ref1_sound_j1 ref1_sound_j2
  simp [soundD, ift_true]
 | succ d ih =>
  intro k v z hd hk hs h0 h1
  obtain ⟨k, rfl⟩ : ∃ q, k = q + 1 := ⟨k - 1, by omega⟩
  have hsz := sizeV_eq v
  have hlen := sizeL_len v.items
  rw [ref1_sound, cnt_wrap v z h0 h1]
  unfold ref1_sound_j1 ref1_sound_j2
  rw [rAlone v (by omega)]
  have e4 : ¬ (4 : Int) < 5 - ((d + 1 : Nat) : Int) := by omega
  have hc : z ≤ cnt v z ∧ cnt v z ≤ z + 1 := by unfold cnt; split <;> omega
  simp only [e4, decide_false, ift_false, soundD, bnd_some']
  by_cases h2 : (256 : Int) < cnt v z
  ·simp [h2, ift_true]
  ·cases hp : plainOk v with
   | false => simp [h2, ift_true, ift_false]
   | true =>
    simp only [h2, decide_false, ift_false, Bool.not_true, false_or, Bool.true_eq_false, if_false]
    have := rsound_loop (d := d) (5 - ((d + 1 : Nat) : Int)) (by omega) (by omega) (ref1_sound k) v (by omega) (by
     intro x hx z h0 h1
     have := sizeL_mem hx
     rw [show (5 - ((d + 1 : Nat) : Int) + 1) = 5 - (d : Int) by omega]
     exact ih k x z (by omega) (by omega) (by omega) h0 h1) BIG 0 (cnt v z) (by omega) (by rw [big_val]; omega) (by omega) (by omega)
    rw [show ((0 : Nat) : Int) = (0 : Int) from rfl, List.drop_zero] at this
    exact this

theorem rSound (v : GValue) (hs : sizeV v < 1000000000) : ref1_Sound v = some (soundB v) := by
 unfold ref1_Sound soundB
 have := rsound_eq 4 BIG v 0 (by omega) (by rw [big_val]; omega) hs (by omega) (by omega)
 rw [show (5 - ((4 : Nat) : Int)) = (1 : Int) from rfl] at this
 rw [this]; rfl

end Go.Proofs.YtdkmclmdemngfaaDoor
namespace Go.Proofs.YtdkmclmdemngfaaDoor
open Go Go.SX Go.SX.Cal
set_option linter.unusedVariables false

theorem sizeL_sum : ∀ l : List GValue, sizeL l = (l.map sizeV).sum
 | [] => by simp [sizeL]
 | x :: l => by simp [sizeL, sizeL_sum l]

theorem sz_mk (k n sc : Int) (s : ByteArray) (it : List GValue) : sizeV ⟨k, n, sc, s, it⟩ ≤ s.size + (it.map sizeV).sum + 6 := by
 simp only [sizeV, sizeL_sum]; omega

end Go.Proofs.YtdkmclmdemngfaaDoor
namespace Go.Proofs.YtdkmclmdemngfaaDoor
open Go Go.SX Go.SX.Cal Go.Lib
set_option linter.unusedVariables false
set_option linter.unusedSimpArgs false

theorem c3_self (a : Int) : c3 a a = 0 := by unfold c3; rw [if_neg (by omega), if_neg (by omega)]

end Go.Proofs.YtdkmclmdemngfaaDoor
namespace Go.Proofs.YtdkmclmdemngfaaDoor
open Go Go.SX Go.SX.Cal Go.Lib
set_option linter.unusedVariables false
set_option linter.unusedSimpArgs false

theorem grd_pos {β : Type} {p : Prop} [Decidable p] {x : Option β} (h : p) : grd p x = x := if_pos h

end Go.Proofs.YtdkmclmdemngfaaDoor
namespace Go.Proofs.YtdkmclmdemngfaaDoor
open Go Go.SX Go.SX.Cal
set_option linter.unusedVariables false
set_option linter.unusedSimpArgs false

theorem mul_lin (p11 p10 p01 p00 : Int) (h11 : 0 ≤ p11 ∧ p11 ≤ 18446744065119617025) (h10 : 0 ≤ p10 ∧ p10 ≤ 18446744065119617025) (h01 : 0 ≤ p01 ∧ p01 ≤ 18446744065119617025) (h00 : 0 ≤ p00 ∧ p00 ≤ 18446744065119617025) :
  p11 + (p10 + p00 / 4294967296) / 4294967296 + ((p10 + p00 / 4294967296) % 4294967296 + p01) / 4294967296 = (p11 * 18446744073709551616 + (p10 + p01) * 4294967296 + p00) / 18446744073709551616 := by
 omega

theorem mul_eq {x y : Int} (h0 : 0 ≤ x) (h1 : x < 18446744073709551616) (k0 : 0 ≤ y) (k1 : y < 18446744073709551616) : math_bits_Mul64 x y = some (x * y / 18446744073709551616, x * y % 18446744073709551616) := by
 unfold math_bits_Mul64
 simp only [bnd_eq, sh32]
 rw [mask32 h0 h1, mask32 k0 k1]
 simp only [wu]
 have hx0 : 0 ≤ x % 4294967296 ∧ x % 4294967296 < 4294967296 := by omega
 have hx1 : 0 ≤ x / 4294967296 ∧ x / 4294967296 < 4294967296 := by omega
 have hy0 : 0 ≤ y % 4294967296 ∧ y % 4294967296 < 4294967296 := by omega
 have hy1 : 0 ≤ y / 4294967296 ∧ y / 4294967296 < 4294967296 := by omega
 have ex : x = x / 4294967296 * 4294967296 + x % 4294967296 := by omega
 have ey : y = y / 4294967296 * 4294967296 + y % 4294967296 := by omega
 have exy : x * y = (x / 4294967296 * (y / 4294967296)) * 18446744073709551616 + (x / 4294967296 * (y % 4294967296) + x % 4294967296 * (y / 4294967296)) * 4294967296 + x % 4294967296 * (y % 4294967296) := by
  generalize x / 4294967296 = x1 at *
  generalize x % 4294967296 = x0 at *
  generalize y / 4294967296 = y1 at *
  generalize y % 4294967296 = y0 at *
  rw [ex, ey]
  simp only [Int.add_mul, Int.mul_add]
  have e1 : x1 * 4294967296 * (y1 * 4294967296) = x1 * y1 * 18446744073709551616 := by
   rw [Int.mul_assoc, Int.mul_left_comm 4294967296 y1, ← Int.mul_assoc]; rfl
  have e2 : x1 * 4294967296 * y0 = x1 * y0 * 4294967296 := by rw [Int.mul_assoc, Int.mul_comm 4294967296, ← Int.mul_assoc]
  have e3 : x0 * (y1 * 4294967296) = x0 * y1 * 4294967296 := by rw [Int.mul_assoc]
  rw [e1, e2, e3]; omega
 have b11 := Go.SX.Cal.prod_bound hx1.1 hx1.2 hy1.1 hy1.2
 have b10 := Go.SX.Cal.prod_bound hx1.1 hx1.2 hy0.1 hy0.2
 have b01 := Go.SX.Cal.prod_bound hx0.1 hx0.2 hy1.1 hy1.2
 have b00 := Go.SX.Cal.prod_bound hx0.1 hx0.2 hy0.1 hy0.2
 rw [m64 (x := x % 4294967296) (by omega) (by omega), m64 (x := y % 4294967296) (by omega) (by omega)]
 have L := mul_lin _ _ _ _ b11 b10 b01 b00
 rw [exy]
 generalize x / 4294967296 * (y / 4294967296) = p11 at *
 generalize x / 4294967296 * (y % 4294967296) = p10 at *
 generalize x % 4294967296 * (y / 4294967296) = p01 at *
 generalize x % 4294967296 * (y % 4294967296) = p00 at *
 rw [m64 (x := p10) (by omega) (by omega), m64 (x := p00) (by omega) (by omega), m64 (x := p01) (by omega) (by omega), m64 (x := p11) (by omega) (by omega), m64 (x := p10 + p00 / 4294967296) (by omega) (by omega)]
 rw [mask32 (x := p10 + p00 / 4294967296) (by omega) (by omega)]
 rw [m64 (x := (p10 + p00 / 4294967296) % 4294967296) (by omega) (by omega), m64 (x := (p10 + p00 / 4294967296) % 4294967296 + p01) (by omega) (by omega)]
 rw [m64 (x := p11 + (p10 + p00 / 4294967296) / 4294967296) (by omega) (by omega), m64 (x := p11 + (p10 + p00 / 4294967296) / 4294967296 + ((p10 + p00 / 4294967296) % 4294967296 + p01) / 4294967296) (by omega) (by omega), L]

theorem times_eq {w : GWide} {n : Int} (h : W4 w) (n0 : 0 ≤ n) (n1 : n < 18446744073709551616) (hv : val w * n < 115792089237316195423570985008687907853269984665640564039457584007913129639936) :
  ∃ w', value_wide_times w n = some w' ∧ W4 w' ∧ val w' = val w * n ∧ w'.neg = w.neg := by
 obtain ⟨neg, x0, x1, x2, x3⟩ := w
 obtain ⟨a0, a1, b0, b1, c0, c1, d0, d1⟩ := h
 simp only at a0 a1 b0 b1 c0 c1 d0 d1
 unfold value_wide_times
 simp only
 rw [mul_eq a0 a1 n0 n1, mul_eq b0 b1 n0 n1, mul_eq c0 c1 n0 n1, mul_eq d0 d1 n0 n1]
 simp only [bnd_eq, wu]
 have hval : val ⟨neg, x0, x1, x2, x3⟩ * n = x0 * n + x1 * n * 18446744073709551616 + x2 * n * 340282366920938463463374607431768211456 + x3 * n * 6277101735386680763835789423207666416102355444464034512896 := by
  unfold val
  simp only [Int.add_mul]
  rw [Int.mul_right_comm x1, Int.mul_right_comm x2, Int.mul_right_comm x3]
 rw [hval] at hv ⊢
 obtain ⟨p1, p2, p3, p4⟩ := word_step (c := 0) a0 a1 n0 n1 (by decide) (by decide)
 simp only [Int.add_zero] at p1 p2 p3 p4 ⊢
 rw [p1, p2]
 generalize hc1 : x0 * n / 18446744073709551616 = k1 at *
 obtain ⟨q1, q2, q3, q4⟩ := word_step (c := k1) b0 b1 n0 n1 p3 p4
 rw [q1, q2]
 generalize hc2 : (x1 * n + k1) / 18446744073709551616 = k2 at *
 obtain ⟨r1, r2, r3, r4⟩ := word_step (c := k2) c0 c1 n0 n1 q3 q4
 rw [r1, r2]
 generalize hc3 : (x2 * n + k2) / 18446744073709551616 = k3 at *
 obtain ⟨s1, s2, s3, s4⟩ := word_step (c := k3) d0 d1 n0 n1 r3 r4
 rw [s2]
 have e0 := Int.mul_nonneg a0 n0
 have e1 := Int.mul_nonneg b0 n0
 have e2 := Int.mul_nonneg c0 n0
 have e3 := Int.mul_nonneg d0 n0
 clear p1 p2 q1 q2 r1 r2 s1 s2
 generalize x0 * n = P0 at *
 generalize x1 * n = P1 at *
 generalize x2 * n = P2 at *
 generalize x3 * n = P3 at *
 rw [grd_pos (by omega), grd_pos (by omega), grd_pos (by omega), grd_pos (by omega)]
 refine ⟨_, rfl, ⟨by simp only; omega, by simp only; omega, by simp only; omega, by simp only; omega, by simp only; omega, by simp only; omega, by simp only; omega, by simp only; omega⟩, ?_, rfl⟩
 simp only [val]
 have f0 : P0 = k1 * 18446744073709551616 + P0 % 18446744073709551616 := by omega
 have f1 : P1 + k1 = k2 * 18446744073709551616 + (P1 + k1) % 18446744073709551616 := by omega
 have f2 : P2 + k2 = k3 * 18446744073709551616 + (P2 + k2) % 18446744073709551616 := by omega
 have f3 : P3 + k3 = (P3 + k3) / 18446744073709551616 * 18446744073709551616 + (P3 + k3) % 18446744073709551616 := by omega
 have z : (P3 + k3) / 18446744073709551616 = 0 := by
  generalize P0 % 18446744073709551616 = m0 at *
  generalize (P1 + k1) % 18446744073709551616 = m1 at *
  generalize (P2 + k2) % 18446744073709551616 = m2 at *
  omega
 rw [z] at f3
 generalize P0 % 18446744073709551616 = m0 at *
 generalize (P1 + k1) % 18446744073709551616 = m1 at *
 generalize (P2 + k2) % 18446744073709551616 = m2 at *
 generalize (P3 + k3) % 18446744073709551616 = m3 at *
 omega

theorem csize_eq {a b : GWide} (ha : W4 a) (hb : W4 b) : value_compareSize a b = some (c3 (val a) (val b)) := by
 obtain ⟨n, x0, x1, x2, x3⟩ := a
 obtain ⟨m, y0, y1, y2, y3⟩ := b
 obtain ⟨a0, a1, b0, b1, c0, c1, d0, d1⟩ := ha
 obtain ⟨e0, e1, f0, f1, g0, g1, h0, h1⟩ := hb
 simp only at *
 unfold value_compareSize
 simp only [ift_ite, decide_eq_true_eq]
 unfold c3 val
 simp only
 by_cases q3 : x3 < y3
 ·rw [if_pos q3, if_pos (by omega)]
 rw [if_neg q3]
 by_cases q3' : y3 < x3
 ·rw [if_pos q3', if_neg (by omega), if_pos (by omega)]
 rw [if_neg q3']
 by_cases q2 : x2 < y2
 ·rw [if_pos q2, if_pos (by omega)]
 rw [if_neg q2]
 by_cases q2' : y2 < x2
 ·rw [if_pos q2', if_neg (by omega), if_pos (by omega)]
 rw [if_neg q2']
 by_cases q1 : x1 < y1
 ·rw [if_pos q1, if_pos (by omega)]
 rw [if_neg q1]
 by_cases q1' : y1 < x1
 ·rw [if_pos q1', if_neg (by omega), if_pos (by omega)]
 rw [if_neg q1']
 by_cases q0 : x0 < y0
 ·rw [if_pos q0, if_pos (by omega)]
 rw [if_neg q0]
 by_cases q0' : y0 < x0
 ·rw [if_pos q0', if_neg (by omega), if_pos (by omega)]
 rw [if_neg q0', if_neg (by omega), if_neg (by omega)]

def wd (A j : Nat) : Nat := A / 2 ^ (64 * j) % 2 ^ 64

def mkW (s : Bool) (A : Nat) : GWide := ⟨s, (wd A 0 : Int), (wd A 1 : Int), (wd A 2 : Int), (wd A 3 : Int)⟩

theorem eta_w (w : GWide) : GWide.mk w.neg (w.size.1, w.size.2.1, w.size.2.2.1, w.size.2.2.2) = w := rfl

theorem wd0 (A : Nat) : wd A 0 = A % 18446744073709551616 := by unfold wd; simp
theorem wd1 (A : Nat) : wd A 1 = A / 18446744073709551616 % 18446744073709551616 := by unfold wd; simp
theorem wd2 (A : Nat) : wd A 2 = A / 340282366920938463463374607431768211456 % 18446744073709551616 := by unfold wd; simp
theorem wd3 (A : Nat) : wd A 3 = A / 6277101735386680763835789423207666416102355444464034512896 % 18446744073709551616 := by unfold wd; simp

theorem mkW_w4 (s : Bool) (A : Nat) : W4 (mkW s A) := by
 have h : ∀ j, (0 : Int) ≤ (wd A j : Int) ∧ (wd A j : Int) < 18446744073709551616 := fun j => by
  have : wd A j < 2 ^ 64 := Nat.mod_lt _ (by decide)
  omega
 exact ⟨(h 0).1, (h 0).2, (h 1).1, (h 1).2, (h 2).1, (h 2).2, (h 3).1, (h 3).2⟩

theorem val_mkW (s : Bool) (A : Nat) (h : A < 115792089237316195423570985008687907853269984665640564039457584007913129639936) : val (mkW s A) = A := by
 unfold val mkW
 simp only [wd0, wd1, wd2, wd3]
 omega

theorem w4_mk {w : GWide} (h : W4 w) : w = mkW w.neg (val w).toNat := by
 obtain ⟨neg, x0, x1, x2, x3⟩ := w
 obtain ⟨a0, a1, b0, b1, c0, c1, d0, d1⟩ := h
 simp only at a0 a1 b0 b1 c0 c1 d0 d1
 unfold mkW val
 simp only [wd0, wd1, wd2, wd3, GWide.mk.injEq, Prod.mk.injEq, true_and]
 refine ⟨?_, ?_, ?_, ?_⟩ <;> omega

theorem w4_eq {w : GWide} {s : Bool} {A : Nat} (h : W4 w) (hs : w.neg = s) (hv : val w = A) : w = mkW s A := by
 rw [w4_mk h, hs, hv]; rfl

theorem times_mk (s : Bool) (A m : Nat) (hm : m < 18446744073709551616) (h : A * m < 115792089237316195423570985008687907853269984665640564039457584007913129639936) (hA : A < 115792089237316195423570985008687907853269984665640564039457584007913129639936) : value_wide_times (mkW s A) (m : Int) = some (mkW s (A * m)) := by
 have hv := val_mkW s A hA
 obtain ⟨w, h1, h2, h3, h4⟩ := times_eq (n := (m : Int)) (mkW_w4 s A) (by omega) (by omega) (by rw [hv]; omega)
 rw [h1, w4_eq h2 (s := s) (A := A * m) h4 (by rw [h3, hv]; push_cast; rfl)]

theorem csize_mk (s t : Bool) (A B : Nat) (hA : A < 115792089237316195423570985008687907853269984665640564039457584007913129639936) (hB : B < 115792089237316195423570985008687907853269984665640564039457584007913129639936) : value_compareSize (mkW s A) (mkW t B) = some (c3 (A : Int) (B : Int)) := by
 rw [csize_eq (mkW_w4 s A) (mkW_w4 t B), val_mkW s A hA, val_mkW t B hB]

theorem whole_mk (n : Int) (h0 : -9223372036854775808 ≤ n) (h1 : n ≤ 9223372036854775807) : value_whole n = some (mkW (decide (n < 0)) n.natAbs) := by
 unfold value_whole
 by_cases h : n < 0
 ·rw [show decide (n < 0) = true by simpa using h, ift_true]
  congr 1
  unfold mkW
  simp only [wd0, wd1, wd2, wd3, GWide.mk.injEq, Prod.mk.injEq, true_and, wu]
  refine ⟨?_, ?_, ?_, ?_⟩ <;> omega
 ·rw [show decide (n < 0) = false by simpa using h, ift_false]
  congr 1
  unfold mkW
  simp only [wd0, wd1, wd2, wd3, GWide.mk.injEq, Prod.mk.injEq, true_and, wu]
  refine ⟨?_, ?_, ?_, ?_⟩ <;> omega

theorem shifted_l (s : Bool) (d : Nat) (hd : d ≤ 1000) : ∀ (j k A i : Nat), i + j = d → j < k → A * 10 ^ j < 115792089237316195423570985008687907853269984665640564039457584007913129639936 →
  value_wide_shifted_l1 (d : Int) k s (wd A 0) (wd A 1) (wd A 2) (wd A 3) (i : Int) = some (mkW s (A * 10 ^ j)) := by
 intro j
 induction j with
 | zero =>
  intro k A i hi hk hA
  obtain ⟨k, rfl⟩ : ∃ q, k = q + 1 := ⟨k - 1, by omega⟩
  rw [value_wide_shifted_l1, show decide ((i : Int) < (d : Int)) = false by simp; omega, ift_false, Nat.pow_zero, Nat.mul_one]
  rfl
 | succ j ih =>
  intro k A i hi hk hA
  obtain ⟨k, rfl⟩ : ∃ q, k = q + 1 := ⟨k - 1, by omega⟩
  have e : A * 10 ^ (j + 1) = A * 10 * 10 ^ j := by rw [Nat.pow_succ, Nat.mul_comm (10 ^ j) 10, Nat.mul_assoc]
  have hp : 0 < 10 ^ j := Nat.pow_pos (by decide)
  have hle : A * 10 * 1 ≤ A * 10 * 10 ^ j := Nat.mul_le_mul_left _ hp
  rw [e] at hA ⊢
  have ht := times_mk s A 10 (by decide) (by omega) (by omega)
  rw [value_wide_shifted_l1, show decide ((i : Int) < (d : Int)) = true by simp; omega, ift_true]
  have ht' : value_wide_times (GWide.mk s ((wd A 0 : Int), (wd A 1 : Int), (wd A 2 : Int), (wd A 3 : Int))) (10 : Int) = some (mkW s (A * 10)) := ht
  rw [ht', bnd_some', w64 (by omega) (by omega), show (i : Int) + 1 = ((i + 1 : Nat) : Int) by omega]
  exact ih k (A * 10) (i + 1) (by omega) (by omega) hA

theorem shifted_mk (s : Bool) (A d : Nat) (hd : d ≤ 1000) (h : A * 10 ^ d < 115792089237316195423570985008687907853269984665640564039457584007913129639936) : value_wide_shifted (mkW s A) (d : Int) = some (mkW s (A * 10 ^ d)) :=
 shifted_l s d hd d BIG A 0 (by omega) (by rw [big_val]; omega) h

theorem scaled_mk (n : Int) (d : Nat) (h0 : -9223372036854775808 ≤ n) (h1 : n ≤ 9223372036854775807) (hd : d ≤ 1000) (h : n.natAbs * 10 ^ d < 115792089237316195423570985008687907853269984665640564039457584007913129639936) :
  value_scaled n (d : Int) = some (mkW (decide (n < 0)) (n.natAbs * 10 ^ d)) := by
 unfold value_scaled
 rw [whole_mk n h0 h1, bnd_some', eta_w, shifted_mk _ _ d hd h, bnd_some']

theorem minus_j_w {s t : Bool} {x0 x1 x2 x3 y0 y1 y2 y3 : Int} (ha : W4 ⟨s, x0, x1, x2, x3⟩) (hb : W4 ⟨t, y0, y1, y2, y3⟩) (hle : val ⟨t, y0, y1, y2, y3⟩ ≤ val ⟨s, x0, x1, x2, x3⟩) :
  ∃ w, value_wide_minus_j1 s x0 x1 x2 x3 t y0 y1 y2 y3 = some w ∧ W4 w ∧ w.neg = s ∧ val w = val ⟨s, x0, x1, x2, x3⟩ - val ⟨t, y0, y1, y2, y3⟩ := by
 obtain ⟨a0, a1, b0, b1, c0, c1, d0, d1⟩ := ha
 obtain ⟨e0, e1, f0, f1, g0, g1, h0, h1⟩ := hb
 simp only at a0 a1 b0 b1 c0 c1 d0 d1 e0 e1 f0 f1 g0 g1 h0 h1
 simp only [val] at hle ⊢
 unfold value_wide_minus_j1
 simp only [bnd_eq, Int.add_zero, Int.sub_zero]
 have k1 : ∃ u, (if x0 < y0 then (1 : Int) else 0) = u ∧ 0 ≤ u ∧ u ≤ 1 ∧ (x0 - y0) % 18446744073709551616 = x0 - y0 + u * 18446744073709551616 := by
  split
  ·exact ⟨1, rfl, by omega, by omega, by omega⟩
  ·exact ⟨0, rfl, by omega, by omega, by omega⟩
 obtain ⟨u1, p1, p2, p3, p4⟩ := k1
 rw [p1, p4]
 have k2 : ∃ u, (if x1 < y1 + u1 then (1 : Int) else 0) = u ∧ 0 ≤ u ∧ u ≤ 1 ∧ (x1 - y1 - u1) % 18446744073709551616 = x1 - y1 - u1 + u * 18446744073709551616 := by
  split
  ·exact ⟨1, rfl, by omega, by omega, by omega⟩
  ·exact ⟨0, rfl, by omega, by omega, by omega⟩
 obtain ⟨u2, q1, q2, q3, q4⟩ := k2
 rw [q1, q4]
 have k3 : ∃ u, (if x2 < y2 + u2 then (1 : Int) else 0) = u ∧ 0 ≤ u ∧ u ≤ 1 ∧ (x2 - y2 - u2) % 18446744073709551616 = x2 - y2 - u2 + u * 18446744073709551616 := by
  split
  ·exact ⟨1, rfl, by omega, by omega, by omega⟩
  ·exact ⟨0, rfl, by omega, by omega, by omega⟩
 obtain ⟨u3, r1, r2, r3, r4⟩ := k3
 rw [r1, r4]
 rw [grd_pos (by omega), grd_pos (by omega), grd_pos (by omega), grd_pos (by omega)]
 have p5 : 0 ≤ x0 - y0 + u1 * 18446744073709551616 ∧ x0 - y0 + u1 * 18446744073709551616 < 18446744073709551616 := by omega
 have q5 : 0 ≤ x1 - y1 - u1 + u2 * 18446744073709551616 ∧ x1 - y1 - u1 + u2 * 18446744073709551616 < 18446744073709551616 := by omega
 have r5 : 0 ≤ x2 - y2 - u2 + u3 * 18446744073709551616 ∧ x2 - y2 - u2 + u3 * 18446744073709551616 < 18446744073709551616 := by omega
 clear p1 p4 q1 q4 r1 r4
 have s5 : (x3 - y3 - u3) % 18446744073709551616 = x3 - y3 - u3 := by omega
 rw [s5]
 refine ⟨_, rfl, ⟨p5.1, p5.2, q5.1, q5.2, r5.1, r5.2, by simp only; omega, by simp only; omega⟩, rfl, ?_⟩
 simp only
 omega

theorem plus_same_w {k : Nat} {b : Bool} {x0 x1 x2 x3 y0 y1 y2 y3 : Int} (ha : W4 ⟨b, x0, x1, x2, x3⟩) (hb : W4 ⟨b, y0, y1, y2, y3⟩) (hv : val ⟨b, x0, x1, x2, x3⟩ + val ⟨b, y0, y1, y2, y3⟩ < 115792089237316195423570985008687907853269984665640564039457584007913129639936) :
  ∃ w, value_wide_plus (k + 1) ⟨b, x0, x1, x2, x3⟩ ⟨b, y0, y1, y2, y3⟩ = some w ∧ W4 w ∧ w.neg = b ∧ val w = val ⟨b, x0, x1, x2, x3⟩ + val ⟨b, y0, y1, y2, y3⟩ := by
 obtain ⟨a0, a1, b0, b1', c0, c1, d0, d1⟩ := ha
 obtain ⟨e0, e1, f0, f1, g0, g1, h0, h1⟩ := hb
 simp only at a0 a1 b0 b1' c0 c1 d0 d1 e0 e1 f0 f1 g0 g1 h0 h1
 rw [value_wide_plus]
 simp only [beq_self_eq_true, Bool.not_true, ift_false, bnd_eq, Int.add_zero]
 simp only [val] at hv ⊢
 have m0 : x0 + y0 = (x0 + y0) / 18446744073709551616 * 18446744073709551616 + (x0 + y0) % 18446744073709551616 := by omega
 have u0 : 0 ≤ (x0 + y0) / 18446744073709551616 ∧ (x0 + y0) / 18446744073709551616 ≤ 1 := by omega
 have v0 : 0 ≤ (x0 + y0) % 18446744073709551616 ∧ (x0 + y0) % 18446744073709551616 < 18446744073709551616 := by omega
 generalize (x0 + y0) / 18446744073709551616 = t0 at *
 generalize (x0 + y0) % 18446744073709551616 = r0 at *
 have m1 : x1 + y1 + t0 = (x1 + y1 + t0) / 18446744073709551616 * 18446744073709551616 + (x1 + y1 + t0) % 18446744073709551616 := by omega
 have u1 : 0 ≤ (x1 + y1 + t0) / 18446744073709551616 ∧ (x1 + y1 + t0) / 18446744073709551616 ≤ 1 := by omega
 have v1 : 0 ≤ (x1 + y1 + t0) % 18446744073709551616 ∧ (x1 + y1 + t0) % 18446744073709551616 < 18446744073709551616 := by omega
 generalize (x1 + y1 + t0) / 18446744073709551616 = t1 at *
 generalize (x1 + y1 + t0) % 18446744073709551616 = r1 at *
 have m2 : x2 + y2 + t1 = (x2 + y2 + t1) / 18446744073709551616 * 18446744073709551616 + (x2 + y2 + t1) % 18446744073709551616 := by omega
 have u2 : 0 ≤ (x2 + y2 + t1) / 18446744073709551616 ∧ (x2 + y2 + t1) / 18446744073709551616 ≤ 1 := by omega
 have v2 : 0 ≤ (x2 + y2 + t1) % 18446744073709551616 ∧ (x2 + y2 + t1) % 18446744073709551616 < 18446744073709551616 := by omega
 generalize (x2 + y2 + t1) / 18446744073709551616 = t2 at *
 generalize (x2 + y2 + t1) % 18446744073709551616 = r2 at *
 have m3 : x3 + y3 + t2 = (x3 + y3 + t2) / 18446744073709551616 * 18446744073709551616 + (x3 + y3 + t2) % 18446744073709551616 := by omega
 have u3 : 0 ≤ (x3 + y3 + t2) / 18446744073709551616 ∧ (x3 + y3 + t2) / 18446744073709551616 ≤ 1 := by omega
 have v3 : 0 ≤ (x3 + y3 + t2) % 18446744073709551616 ∧ (x3 + y3 + t2) % 18446744073709551616 < 18446744073709551616 := by omega
 generalize (x3 + y3 + t2) / 18446744073709551616 = t3 at *
 generalize (x3 + y3 + t2) % 18446744073709551616 = r3 at *
 rw [grd_pos (by omega), grd_pos (by omega), grd_pos (by omega), grd_pos (by omega)]
 have z : t3 = 0 := by omega
 subst z
 refine ⟨_, rfl, ⟨v0.1, v0.2, v1.1, v1.2, v2.1, v2.2, v3.1, v3.2⟩, rfl, ?_⟩
 simp only
 omega

theorem minus_j_mk (a b : GWide) (ha : W4 a) (hb : W4 b) (hle : val b ≤ val a) :
  value_wide_minus_j1 a.neg a.size.1 a.size.2.1 a.size.2.2.1 a.size.2.2.2 b.neg b.size.1 b.size.2.1 b.size.2.2.1 b.size.2.2.2 = some (mkW a.neg (val a - val b).toNat) := by
 obtain ⟨w, h1, h2, h3, h4⟩ := minus_j_w ha hb hle
 rw [h1, w4_mk h2, h3, h4]

theorem plus_same_mk (k : Nat) (s : Bool) (A B : Nat) (hv : A + B < 115792089237316195423570985008687907853269984665640564039457584007913129639936) :
  value_wide_plus (k + 1) (mkW s A) (mkW s B) = some (mkW s (A + B)) := by
 have va := val_mkW s A (by omega)
 have vb := val_mkW s B (by omega)
 have hv' : val (mkW s A) + val (mkW s B) < 115792089237316195423570985008687907853269984665640564039457584007913129639936 := by rw [va, vb]; omega
 obtain ⟨w, h1, h2, h3, h4⟩ := plus_same_w (k := k) (mkW_w4 s A) (mkW_w4 s B) hv'
 have h5 : val w = ((A + B : Nat) : Int) := by
  have : val w = val (mkW s A) + val (mkW s B) := h4
  rw [this, va, vb]; omega
 have h6 := w4_eq h2 h3 h5
 rw [h6] at h1
 exact h1

def sgv (s : Bool) (A : Nat) : Int := if s = true then -(A : Int) else (A : Int)

theorem c3_neg {a b : Int} : decide (c3 a b < 0) = decide (a < b) := by
 unfold c3
 by_cases h : a < b
 ·simp [h]
 ·rw [if_neg h]; split <;> simp [h]

theorem minus_same_mk (k : Nat) (s : Bool) (A B : Nat) (hA : A < 115792089237316195423570985008687907853269984665640564039457584007913129639936) (hB : B < 115792089237316195423570985008687907853269984665640564039457584007913129639936) :
  value_wide_minus (k + 1) (mkW s A) (mkW s B) = some (if A < B then mkW (!s) (B - A) else mkW s (A - B)) := by
 rw [value_wide_minus, show (mkW s A).neg = s from rfl, show (mkW s B).neg = s from rfl]
 simp only [beq_self_eq_true, Bool.not_true, ift_false]
 have e := csize_mk s s A B hA hB
 have e' : value_compareSize (GWide.mk s ((mkW s A).size.1, (mkW s A).size.2.1, (mkW s A).size.2.2.1, (mkW s A).size.2.2.2)) (GWide.mk s ((mkW s B).size.1, (mkW s B).size.2.1, (mkW s B).size.2.2.1, (mkW s B).size.2.2.2)) = some (c3 (A : Int) (B : Int)) := e
 rw [e', bnd_some', c3_neg]
 by_cases h : A < B
 ·rw [show decide ((A : Int) < (B : Int)) = true by simpa using h, ift_true, if_pos h]
  unfold value_wide_negated
  rw [bnd_some']
  have va := val_mkW s A hA
  have vb := val_mkW (!s) B hB
  have q := minus_j_mk (mkW (!s) B) (mkW s A) (mkW_w4 _ _) (mkW_w4 _ _) (by rw [va, vb]; omega)
  rw [va, vb, show ((B : Int) - (A : Int)).toNat = B - A by omega] at q
  exact q
 ·rw [show decide ((A : Int) < (B : Int)) = false by simpa using h, ift_false, if_neg h]
  have va := val_mkW s A hA
  have vb := val_mkW s B hB
  have q := minus_j_mk (mkW s A) (mkW s B) (mkW_w4 _ _) (mkW_w4 _ _) (by rw [va, vb]; omega)
  rw [va, vb, show ((A : Int) - (B : Int)).toNat = A - B by omega] at q
  exact q

theorem plus_mk (s t : Bool) (A B : Nat) (hv : A + B < 115792089237316195423570985008687907853269984665640564039457584007913129639936) :
  ∃ u C, value_wide_plus BIG (mkW s A) (mkW t B) = some (mkW u C) ∧ sgv u C = sgv s A + sgv t B ∧ C ≤ A + B := by
 have hB : BIG = 1152921504606846974 + 1 + 1 := rfl
 by_cases h : s = t
 ·subst h
  rw [hB, plus_same_mk _ s A B hv]
  refine ⟨s, A + B, rfl, ?_, Nat.le_refl _⟩
  unfold sgv; cases s <;> simp <;> omega
 ·rw [hB, value_wide_plus, show (mkW s A).neg = s from rfl, show (mkW t B).neg = t from rfl]
  have hb := bool_ne s t h
  rw [hb.1, ift_true]
  unfold value_wide_negated
  rw [bnd_some']
  show ∃ u C, bnd (value_wide_minus (1152921504606846974 + 1) (mkW s A) (mkW (!t) B)) _ = _ ∧ _
  rw [hb.2, minus_same_mk _ s A B (by omega) (by omega), bnd_some', eta_w]
  by_cases hlt : A < B
  ·rw [if_pos hlt]
   refine ⟨!s, B - A, rfl, ?_, by omega⟩
   unfold sgv; revert h; cases s <;> cases t <;> simp <;> omega
  ·rw [if_neg hlt]
   refine ⟨s, A - B, rfl, ?_, by omega⟩
   unfold sgv; revert h; cases s <;> cases t <;> simp <;> omega

theorem minus_mk (s t : Bool) (A B : Nat) (hv : A + B < 115792089237316195423570985008687907853269984665640564039457584007913129639936) :
  ∃ u C, value_wide_minus BIG (mkW s A) (mkW t B) = some (mkW u C) ∧ sgv u C = sgv s A - sgv t B ∧ C ≤ A + B := by
 have hB : BIG = 1152921504606846974 + 1 + 1 := rfl
 by_cases h : s = t
 ·subst h
  rw [hB, minus_same_mk _ s A B (by omega) (by omega)]
  by_cases hlt : A < B
  ·rw [if_pos hlt]
   refine ⟨!s, B - A, rfl, ?_, by omega⟩
   unfold sgv; cases s <;> simp <;> omega
  ·rw [if_neg hlt]
   refine ⟨s, A - B, rfl, ?_, by omega⟩
   unfold sgv; cases s <;> simp <;> omega
 ·rw [hB, value_wide_minus, show (mkW s A).neg = s from rfl, show (mkW t B).neg = t from rfl]
  have hb := bool_ne s t h
  rw [hb.1, ift_true]
  unfold value_wide_negated
  rw [bnd_some']
  show ∃ u C, bnd (value_wide_plus (1152921504606846974 + 1) (mkW s A) (mkW (!t) B)) _ = _ ∧ _
  rw [hb.2, plus_same_mk _ s A B hv, bnd_some', eta_w]
  refine ⟨s, A + B, rfl, ?_, Nat.le_refl _⟩
  unfold sgv; revert h; cases s <;> cases t <;> simp <;> omega

end Go.Proofs.YtdkmclmdemngfaaDoor
namespace Go.Proofs.YtdkmclmdemngfaaDoor
open Go Go.SX Go.SX.Cal
set_option linter.unusedVariables false
set_option linter.unusedSimpArgs false

theorem fd (x s : Nat) : (x : Int).fdiv (2 ^ s) = ((x / 2 ^ s : Nat) : Int) := by
 rw [Int.fdiv_eq_ediv_of_nonneg _ (Int.le_of_lt (Int.pow_pos (by decide)))]
 push_cast; rfl

abbrev QT := Int → Int → Int → Int → Bool → Int → Int → Int → Int → Int → Option (GWide × GWide)

theorem zero_mk (s : Bool) (A : Nat) (hA : A < 115792089237316195423570985008687907853269984665640564039457584007913129639936) : value_wide_zero (mkW s A) = some (decide (A = 0)) := by
 unfold value_wide_zero mkW
 simp only [bnd_some', wd0, wd1, wd2, wd3]
 congr 1
 rw [Bool.eq_iff_iff]
 simp only [Bool.and_true, Bool.and_eq_true, beq_iff_eq, decide_eq_true_eq]
 omega

end Go.Proofs.YtdkmclmdemngfaaDoor
namespace Go.Proofs.YtdkmclmdemngfaaDoor
open Go Go.SX Go.SX.Cal Go.Lib
set_option linter.unusedVariables false
set_option linter.unusedSimpArgs false

def sg (b : Bool) (z : Int) : Int := if b = true then -z else z

structure RWn (w : RWide) (z : Int) (N : Nat) : Prop where
 d : digs w.d
 t : top w.d
 l : w.d.length ≤ N
 b : w.below = true → w.d ≠ []
 v : z = sg w.below (dval w.d)

theorem dval_zero {l : List Int} (h : digs l) (t : top l) : dval l = 0 ↔ l = [] := by
 constructor
 ·intro e
  cases hl : l with
  | nil => rfl
  | cons x m =>
   have h1 := dval_ge h t (by simp [hl])
   have h2 := p10_pos (l.length - 1)
   omega
 ·rintro rfl; rfl

end Go.Proofs.YtdkmclmdemngfaaDoor
namespace Go.Proofs.YtdkmclmdemngfaaDoor
open Go Go.SX Go.SX.Cal Go.Lib
set_option linter.unusedVariables false
set_option linter.unusedSimpArgs false

theorem p10_pow : ∀ n, p10 n = ((10 ^ n : Nat) : Int)
 | 0 => rfl
 | n + 1 => by simp only [p10, p10_pow n, Nat.pow_succ]; push_cast; rfl

theorem RWn.mono {w : RWide} {z : Int} {N M : Nat} (h : RWn w z N) (hm : N ≤ M) : RWn w z M := ⟨h.d, h.t, Nat.le_trans h.l hm, h.b, h.v⟩

theorem RWn.neg {w : RWide} {z : Int} {N : Nat} (h : RWn w z N) : decide (z < 0) = w.below := by
 have h0 := dval_nonneg h.d
 have hv := h.v
 unfold sg at hv
 by_cases hb : w.below = true
 ·rw [if_pos hb] at hv
  have : dval w.d ≠ 0 := fun e => h.b hb ((dval_zero h.d h.t).1 e)
  rw [hb]; simp; omega
 ·rw [if_neg hb] at hv
  have hb' : w.below = false := by simpa using hb
  rw [hb']; simp; omega

theorem RWn.abs {w : RWide} {z : Int} {N : Nat} (h : RWn w z N) : dval w.d = (z.natAbs : Int) := by
 have h0 := dval_nonneg h.d
 have hv := h.v
 unfold sg at hv
 split at hv <;> omega

theorem RWn.nil {w : RWide} {z : Int} {N : Nat} (h : RWn w z N) : (w.d.length = 0) ↔ z = 0 := by
 have := h.abs
 have h2 := dval_zero h.d h.t
 rw [List.length_eq_zero_iff, ← h2]; omega

theorem RWn.lt {w : RWide} {z : Int} {N : Nat} (h : RWn w z N) : (z.natAbs : Int) < p10 N := by
 rw [← h.abs]
 exact Int.lt_of_lt_of_le (dval_lt h.d) (p10_mono h.l)

def zeroV : GValue := ⟨0, 0, 0, ByteArray.empty, []⟩

end Go.Proofs.YtdkmclmdemngfaaDoor
namespace Go.Proofs.YtdkmclmdemngfaaDoor
open Go Go.SX Go.SX.Cal Go.Lib
set_option linter.unusedVariables false
set_option linter.unusedSimpArgs false

end Go.Proofs.YtdkmclmdemngfaaDoor
namespace Go.Proofs.YtdkmclmdemngfaaDoor
open Go Go.SX Go.SX.Cal Go.Lib
set_option linter.unusedVariables false
set_option linter.unusedSimpArgs false

def beN : Nat → Nat → List Int
 | 0, _ => []
 | k + 1, N => beN k (N / 256) ++ [((N % 256 : Nat) : Int)]

theorem beN_len : ∀ k N, (beN k N).length = k
 | 0, N => rfl
 | k + 1, N => by simp [beN, beN_len k]

theorem beN_add (a : Nat) : ∀ b N, beN (a + b) N = beN a (N / 256 ^ b) ++ beN b N
 | 0, N => by simp [beN]
 | b + 1, N => by
  rw [← Nat.add_assoc]
  simp only [beN]
  rw [beN_add a b (N / 256), List.append_assoc, Nat.div_div_eq_div_mul, Nat.pow_succ, Nat.mul_comm 256]

theorem beN8 (N : Nat) : beN 8 N = [((N / 72057594037927936 % 256 : Nat) : Int), ((N / 281474976710656 % 256 : Nat) : Int), ((N / 1099511627776 % 256 : Nat) : Int), ((N / 4294967296 % 256 : Nat) : Int), ((N / 16777216 % 256 : Nat) : Int), ((N / 65536 % 256 : Nat) : Int), ((N / 256 % 256 : Nat) : Int), ((N % 256 : Nat) : Int)] := by
 simp only [beN, Nat.div_div_eq_div_mul, List.nil_append, List.cons_append]

theorem beN8_mod (N : Nat) : beN 8 (N % 18446744073709551616) = beN 8 N := by
 rw [beN8, beN8]
 congr 1
 ·congr 1; omega
 congr 1
 ·congr 1; omega
 congr 1
 ·congr 1; omega
 congr 1
 ·congr 1; omega
 congr 1
 ·congr 1; omega
 congr 1
 ·congr 1; omega
 congr 1
 ·congr 1; omega
 congr 1
 congr 1; omega

theorem sh8 (N s : Nat) (hs : s ≤ 64) : IntKind.u8.wrap (((N : Nat) : Int).fdiv (2 ^ s)) = ((N / 2 ^ s % 256 : Nat) : Int) := by
 rw [fd]
 have : ∀ x : Int, IntKind.u8.wrap x = x % 256 := by
  intro x; simp only [IntKind.wrap, IntKind.bits, IntKind.signed]; simp
 rw [this]
 generalize N / 2 ^ s = q
 omega

theorem vword (N : Nat) (b : List Int) (hb : b.length ≤ 4294967000) : value_word_s (N : Int) b = some ((), b ++ beN 8 N) := by
 unfold value_word_s
 have e56 : min (56 : Int).toNat (IntKind.u64).bits = 56 := rfl
 have e48 : min (48 : Int).toNat (IntKind.u64).bits = 48 := rfl
 have e40 : min (40 : Int).toNat (IntKind.u64).bits = 40 := rfl
 have e32 : min (32 : Int).toNat (IntKind.u64).bits = 32 := rfl
 have e24 : min (24 : Int).toNat (IntKind.u64).bits = 24 := rfl
 have e16 : min (16 : Int).toNat (IntKind.u64).bits = 16 := rfl
 have e8 : min (8 : Int).toNat (IntKind.u64).bits = 8 := rfl
 have e0 : min (0 : Int).toNat (IntKind.u64).bits = 0 := rfl
 simp only [e56, e48, e40, e32, e24, e16, e8, e0, bnd_some']
 rw [sh8 N 56 (by omega), sh8 N 48 (by omega), sh8 N 40 (by omega), sh8 N 32 (by omega), sh8 N 24 (by omega), sh8 N 16 (by omega), sh8 N 8 (by omega), sh8 N 0 (by omega)]
 rw [grd_pos (by omega), grd_pos (by simp; omega), grd_pos (by simp; omega), grd_pos (by simp; omega), grd_pos (by simp; omega), grd_pos (by simp; omega), grd_pos (by simp; omega), grd_pos (by simp; omega)]
 rw [beN8]
 simp

/-! ### bytes of the reference's integers -/

theorem wrap8 {x : Int} (h0 : 0 ≤ x) (h1 : x < 256) : IntKind.u8.wrap x = x := by
 simp only [IntKind.wrap, IntKind.bits, IntKind.signed]; simp; omega

mutual
def keyS : GValue → List Int
 | ⟨k, n, sc, s, it⟩ =>
  if k = 0 then [8]
  else if k = 1 then [IntKind.u8.wrap k, IntKind.u8.wrap n]
  else if k = 2 ∨ k = 5 then IntKind.u8.wrap k :: beN 8 (n + 9223372036854775808).toNat
  else if k = 3 then IntKind.u8.wrap k :: (beN 16 (n * p10 (12 - sc).toNat + 170141183460469231731687303715884105728).toNat ++ [IntKind.u8.wrap sc])
  else if k = 4 then IntKind.u8.wrap k :: (bytesL s ++ [0])
  else IntKind.u8.wrap k :: (keyL it ++ [0])
def keyL : List GValue → List Int
 | [] => []
 | x :: l => (1 :: keyS x) ++ keyL l
end

inductive Sn : GValue → Prop where
 | mk (v : GValue) (h : plainOk v = true) (hi : ∀ x ∈ v.items, Sn x) : Sn v

theorem Sn.pl {v : GValue} (h : Sn v) : plainOk v = true := by cases h; assumption
theorem Sn.it {v : GValue} (h : Sn v) : ∀ x ∈ v.items, Sn x := by cases h; assumption

theorem soundL_all {f : GValue → Int → Bool × Int} : ∀ {l : List GValue} {z : Int}, (soundL f l z).1 = true → ∀ x ∈ l, ∃ z', (f x z').1 = true
 | [], z, _, x, hx => by cases hx
 | v :: l, z, h, x, hx => by
  simp only [soundL] at h
  by_cases hv : (f v z).1 = true
  ·rw [if_pos hv] at h
   rcases List.mem_cons.1 hx with rfl | hx
   ·exact ⟨z, hv⟩
   ·exact soundL_all h x hx
  ·rw [if_neg hv] at h; cases h

theorem soundD_sn : ∀ (d : Nat) (v : GValue) (z : Int), (soundD d v z).1 = true → Sn v
 | 0, v, z, h => by simp [soundD] at h
 | d + 1, v, z, h => by
  simp only [soundD] at h
  by_cases hc : 256 < cnt v z ∨ plainOk v = false
  ·rw [if_pos hc] at h; cases h
  ·rw [if_neg hc] at h
   rw [not_or] at hc
   exact .mk v (by simpa using hc.2) (fun x hx => by
    obtain ⟨z', hz⟩ := soundL_all h x hx
    exact soundD_sn d x z' hz)

theorem sn_of {v : GValue} (h : soundB v = true) : Sn v := soundD_sn 4 v 0 h

theorem plain_kind {v : GValue} (h : plainOk v = true) : (v.kind = 2 ∨ v.kind = 3 ∨ v.kind = 5 → v.n.natAbs < 1000000000000000000) ∧ (v.kind = 3 → 0 ≤ v.scale ∧ v.scale ≤ 12) ∧ 0 ≤ v.kind ∧ v.kind ≤ 7 := by
 unfold plainOk at h
 simp only at h
 by_cases h0 : v.kind = 0
 ·exact ⟨by omega, by omega, by omega, by omega⟩
 by_cases h1 : v.kind = 1
 ·exact ⟨by omega, by omega, by omega, by omega⟩
 by_cases h2 : v.kind = 2
 ·simp [h2] at h; exact ⟨by omega, by omega, by omega, by omega⟩
 by_cases h3 : v.kind = 3
 ·simp [h3] at h; exact ⟨by omega, by omega, by omega, by omega⟩
 by_cases h4 : v.kind = 4
 ·exact ⟨by omega, by omega, by omega, by omega⟩
 by_cases h5 : v.kind = 5
 ·simp [h5] at h; exact ⟨by omega, by omega, by omega, by omega⟩
 by_cases h6 : v.kind = 6
 ·exact ⟨by omega, by omega, by omega, by omega⟩
 by_cases h7 : v.kind = 7
 ·exact ⟨by omega, by omega, by omega, by omega⟩
 ·simp [h0, h1, h2, h3, h4, h5, h6, h7] at h

theorem bytesL_len (s : ByteArray) : (bytesL s).length = s.size := by
 unfold bytesL
 rw [List.length_map, Array.length_toList]; rfl

mutual
theorem keyS_len : ∀ v, (keyS v).length + 5 ≤ 30 * sizeV v
 | ⟨k, n, sc, s, it⟩ => by
  have h1 := keyL_len it
  have h3 := sizeL_len it
  have h2 := bytesL_len s
  simp only [keyS, sizeV]
  split
  ·simp; omega
  split
  ·simp; omega
  split
  ·simp [beN_len]; omega
  split
  ·simp [beN_len]; omega
  split
  ·simp; omega
  ·simp; omega
theorem keyL_len : ∀ l, (keyL l).length ≤ 30 * sizeL l
 | [] => by simp [keyL]
 | x :: l => by
  have h1 := keyS_len x
  have h2 := keyL_len l
  simp only [keyL, sizeL, List.length_append, List.length_cons]; omega
end

theorem vshift (n : Int) (h0 : -9223372036854775808 ≤ n) (h1 : n ≤ 9223372036854775807) : IntKind.u64.wrap ((IntKind.u64.wrap n) + (9223372036854775808 : Int)) = (((n + 9223372036854775808).toNat : Nat) : Int) := by
 rw [wu, wu]; omega

theorem vbytes {s : Bool} {A : Nat} (hA : A < 1000000000000000000000000000000) (b : List Int) (hb : b.length ≤ 4294966000) : value_wide_bytes_s (mkW s A) b = some ((), b ++ beN 16 (sgv s A + 170141183460469231731687303715884105728).toNat) := by
 unfold value_wide_bytes_s
 have e1 : value_wide_times (mkW (decide ((1 : Int) < 0)) (Int.natAbs 1)) (9223372036854775808 : Int) = some (mkW false 9223372036854775808) := times_mk false 1 9223372036854775808 (by decide) (by decide) (by decide)
 have e2 : value_wide_times (mkW false 9223372036854775808) (9223372036854775808 : Int) = some (mkW false 85070591730234615865843651857942052864) := times_mk false 9223372036854775808 9223372036854775808 (by decide) (by decide) (by decide)
 have e3 : value_wide_times (mkW false 85070591730234615865843651857942052864) (2 : Int) = some (mkW false 170141183460469231731687303715884105728) := times_mk false 85070591730234615865843651857942052864 2 (by decide) (by decide) (by decide)
 obtain ⟨u, C, p1, p2, p3⟩ := plus_mk false s 170141183460469231731687303715884105728 A (by omega)
 rw [whole_mk 1 (by decide) (by decide), bnd_some', eta_w, e1, bnd_some', eta_w, e2, bnd_some', eta_w, e3, bnd_some', eta_w, eta_w, p1, bnd_some']
 have hs : sgv false 170141183460469231731687303715884105728 = 170141183460469231731687303715884105728 := rfl
 rw [hs] at p2
 have hsA : -1000000000000000000000000000000 < sgv s A ∧ sgv s A < 1000000000000000000000000000000 := by unfold sgv; split <;> omega
 have hu : u = false ∧ (C : Int) = sgv s A + 170141183460469231731687303715884105728 := by
  unfold sgv at p2 hsA ⊢
  cases u
  ·simp at p2; exact ⟨rfl, by omega⟩
  ·simp at p2; exfalso; omega
 obtain ⟨rfl, hC⟩ := hu
 have hCn : (sgv s A + 170141183460469231731687303715884105728).toNat = C := by omega
 rw [hCn, show (mkW false C).size.2.1 = ((wd C 1 : Nat) : Int) from rfl, show (mkW false C).size.1 = ((wd C 0 : Nat) : Int) from rfl, vword _ _ (by omega), bnd_some']
 simp only
 rw [vword _ _ (by rw [List.length_append, beN_len]; omega), bnd_some']
 simp only
 rw [List.append_assoc, show (16 : Nat) = 8 + 8 from rfl, beN_add 8 8, wd0, wd1, beN8_mod, beN8_mod, show (256 : Nat) ^ 8 = 18446744073709551616 from by decide]

theorem key_step (v : GValue) : keyS v = if v.kind = 0 then [8] else if v.kind = 1 then [IntKind.u8.wrap v.kind, IntKind.u8.wrap v.n] else if v.kind = 2 ∨ v.kind = 5 then IntKind.u8.wrap v.kind :: beN 8 (v.n + 9223372036854775808).toNat
  else if v.kind = 3 then IntKind.u8.wrap v.kind :: (beN 16 (v.n * p10 (12 - v.scale).toNat + 170141183460469231731687303715884105728).toNat ++ [IntKind.u8.wrap v.scale])
  else if v.kind = 4 then IntKind.u8.wrap v.kind :: (bytesL v.s ++ [0]) else IntKind.u8.wrap v.kind :: (keyL v.items ++ [0]) := by
 cases v; simp only [keyS]

theorem keyL_drop {l : List GValue} {i : Nat} (h : i < l.length) : keyL (l.drop i) = (1 :: keyS l[i]) ++ keyL (l.drop (i + 1)) := by
 rw [List.drop_eq_getElem_cons h]; simp only [keyL]

theorem vkey_loop (q : GValue → List Int → Option (Unit × List Int)) (v : GValue) (hl : sizeL v.items < 100000000) (hq : ∀ x ∈ v.items, ∀ b : List Int, b.length + 30 * sizeV x ≤ 4294960000 → q x b = some ((), b ++ keyS x)) : ∀ (m f i : Nat) (b : List Int), i + m = v.items.length → m < f → b.length + 30 * sizeL (v.items.drop i) + 10 ≤ 4294960000 →
  value_key_s_l1 q v f b (i : Int) = some ((), b ++ (keyL (v.items.drop i) ++ [0])) := by
 have hlen := sizeL_len v.items
 intro m
 induction m with
 | zero =>
  intro f i b hi hf hb
  obtain ⟨f, rfl⟩ : ∃ q, f = q + 1 := ⟨f - 1, by omega⟩
  rw [value_key_s_l1, show decide ((i : Int) < (v.items.length : Int)) = false by simp; omega, ift_false, List.drop_of_length_le (by omega)]
  unfold value_key_s_j2
  rw [grd_pos (by omega)]; rfl
 | succ m ih =>
  intro f i b hi hf hb
  obtain ⟨f, rfl⟩ : ∃ q, f = q + 1 := ⟨f - 1, by omega⟩
  have hil : i < v.items.length := by omega
  have hsz : sizeL (v.items.drop i) = sizeV v.items[i] + sizeL (v.items.drop (i + 1)) := by rw [List.drop_eq_getElem_cons hil]; simp only [sizeL]
  have hkl := keyS_len v.items[i]
  have hpos := sizeV_pos v.items[i]
  rw [value_key_s_l1, dec_lt hil, ift_true, at_nat hil, bnd_some', grd_pos (by omega), hq _ (List.getElem_mem hil) _ (by simp; omega), bnd_some', wrap_succ hil (by omega)]
  simp only
  rw [ih f (i + 1) _ (by omega) (by omega) (by simp; omega), keyL_drop hil]
  simp

theorem vkey : ∀ (k : Nat) (v : GValue) (b : List Int), Sn v → sizeV v < k → sizeV v < 100000000 → b.length + 30 * sizeV v ≤ 4294960000 → value_key_s k v b = some ((), b ++ keyS v) := by
 intro k
 induction k with
 | zero => intro v b _ h; omega
 | succ k ih =>
  intro v b hs hk hv hb
  obtain ⟨p1, p2, p3⟩ := plain_kind hs.pl
  have hpos := sizeV_pos v
  have hsz := sizeV_eq v
  have hbl := bytesL_len v.s
  rw [value_key_s, key_step]
  by_cases h0 : v.kind = 0
  ·rw [show (v.kind == 0) = true by simpa using h0, ift_true, grd_pos (by omega), if_pos h0]
  rw [show (v.kind == 0) = false by simpa using h0, ift_false, if_neg h0, grd_pos (by omega)]
  by_cases h1 : v.kind = 1
  ·rw [show (v.kind == 1) = true by simpa using h1, ift_true, grd_pos (by simp; omega), if_pos h1]
   simp
  rw [show (v.kind == 1) = false by simpa using h1, ift_false, if_neg h1]
  have j25 : v.kind = 2 ∨ v.kind = 5 → value_key_s_j1 (value_key_s k) v b true = some ((), b ++ (IntKind.u8.wrap v.kind :: beN 8 (v.n + 9223372036854775808).toNat)) := by
   intro h25
   have hn := p1 (by omega)
   unfold value_key_s_j1
   rw [ift_true, vshift v.n (by omega) (by omega), bnd_some', vword _ _ (by simp; omega), bnd_some']
   simp
  have jno : v.kind ≠ 2 → v.kind ≠ 5 → value_key_s_j1 (value_key_s k) v b false = some ((), b ++ (if v.kind = 3 then IntKind.u8.wrap v.kind :: (beN 16 (v.n * p10 (12 - v.scale).toNat + 170141183460469231731687303715884105728).toNat ++ [IntKind.u8.wrap v.scale])
    else if v.kind = 4 then IntKind.u8.wrap v.kind :: (bytesL v.s ++ [0]) else IntKind.u8.wrap v.kind :: (keyL v.items ++ [0]))) := by
   intro h2 h5
   unfold value_key_s_j1
   rw [ift_false]
   by_cases h3 : v.kind = 3
   ·have hn := p1 (by omega)
    obtain ⟨s0, s12⟩ := p2 h3
    obtain ⟨d, hd⟩ : ∃ d : Nat, 12 - v.scale = (d : Int) := ⟨(12 - v.scale).toNat, by omega⟩
    have hpd : (10 : Nat) ^ d ≤ 10 ^ 12 := Nat.pow_le_pow_right (by decide) (by omega)
    have hA : v.n.natAbs * 10 ^ d ≤ 999999999999999999 * 10 ^ 12 := Nat.mul_le_mul (by omega) hpd
    have hA' : v.n.natAbs * 10 ^ d < 1000000000000000000000000000000 := Nat.lt_of_le_of_lt hA (by decide)
    rw [show (v.kind == 3) = true by simpa using h3, ift_true, if_pos h3, w64 (by omega) (by omega), hd, scaled_mk v.n d (by omega) (by omega) (by omega) (Nat.lt_trans hA' (by decide)), bnd_some', eta_w, vbytes hA' _ (by simp; omega), bnd_some']
    simp only
    have hsg : sgv (decide (v.n < 0)) (v.n.natAbs * 10 ^ d) = v.n * p10 d := by
     unfold sgv
     rw [p10_pow, Int.natCast_mul]
     by_cases h : v.n < 0
     ·rw [if_pos (by simpa using h), show ((v.n.natAbs : Nat) : Int) = -v.n by omega, Int.neg_mul, Int.neg_neg]
     ·rw [if_neg (by simpa using h), show ((v.n.natAbs : Nat) : Int) = v.n by omega]
    rw [grd_pos (by simp [beN_len]; omega), hsg, Int.toNat_natCast]
    simp
   rw [show (v.kind == 3) = false by simpa using h3, ift_false, if_neg h3]
   by_cases h4 : v.kind = 4
   ·rw [show (v.kind == 4) = true by simpa using h4, ift_true, if_pos h4, grd_pos (by simp; omega), grd_pos (by simp; omega)]
    simp
   rw [show (v.kind == 4) = false by simpa using h4, ift_false, if_neg h4]
   have hq : ∀ x ∈ v.items, ∀ b : List Int, b.length + 30 * sizeV x ≤ 4294960000 → value_key_s k x b = some ((), b ++ keyS x) := fun x hx b hb => by
    have := sizeL_mem hx
    exact ih x b (hs.it x hx) (by omega) (by omega) hb
   have := vkey_loop (value_key_s k) v (by omega) hq v.items.length BIG 0 (b ++ [IntKind.u8.wrap v.kind]) (by omega) (by have := sizeL_len v.items; rw [big_val]; omega) (by simp; omega)
   rw [show ((0 : Nat) : Int) = 0 from rfl, List.drop_zero] at this
   rw [this]; simp
  by_cases h2 : v.kind = 2
  ·rw [show (v.kind == 2) = true by simpa using h2, ift_true, j25 (.inl h2), if_pos (.inl h2)]
  rw [show (v.kind == 2) = false by simpa using h2, ift_false]
  by_cases h5 : v.kind = 5
  ·rw [show (v.kind == 5) = true by simpa using h5, j25 (.inr h5), if_pos (.inr h5)]
  rw [show (v.kind == 5) = false by simpa using h5, jno h2 h5, if_neg (show ¬ (v.kind = 2 ∨ v.kind = 5) by omega)]

def unS (l : List GValue) (i : Nat) : Bool := !soundB (l.getD i zeroV)

theorem unS_at {l : List GValue} {i : Nat} (h : i < l.length) : unS l i = !soundB l[i] := by unfold unS; simp [List.getD, List.getElem?_eq_getElem h]

def keyAll : List GValue → List Int
 | [] => []
 | x :: l => keyS x ++ keyAll l

def keyR (l : List GValue) : List Int := if (first (unS l) 0 l.length).isSome = true then [] else keyAll l

theorem keyAll_drop {l : List GValue} {i : Nat} (h : i < l.length) : keyAll (l.drop i) = keyS l[i] ++ keyAll (l.drop (i + 1)) := by
 rw [List.drop_eq_getElem_cons h]; simp only [keyAll]

theorem drop_size {l : List GValue} {i : Nat} (h : i < l.length) : sizeL (l.drop i) = sizeV l[i] + sizeL (l.drop (i + 1)) := by rw [List.drop_eq_getElem_cons h]; simp only [sizeL]

theorem vKey1 (l : List GValue) (hl : sizeL l < 100000000) : slices_ContainsFunc_api_Value_api_Value_of_value_Key_1 l = some (first (unS l) 0 l.length).isSome := by
 have hlen := sizeL_len l
 unfold slices_ContainsFunc_api_Value_api_Value_of_value_Key_1 slices_IndexFunc_api_Value_api_Value_of_value_Key_1
 have h := search (f := fun k i => slices_IndexFunc_api_Value_api_Value_of_value_Key_1_l1 l k (i : Int)) (n := l.length) (P := unS l) (A := fun i => some (i : Int)) (B := some (-1))
  (fun k i hi => by
   have := sizeL_mem (List.getElem_mem hi)
   show slices_IndexFunc_api_Value_api_Value_of_value_Key_1_l1 l (k + 1) (i : Int) = _
   rw [slices_IndexFunc_api_Value_api_Value_of_value_Key_1_l1]
   unfold value_Key_1
   rw [dec_lt hi, ift_true, at_nat hi, bnd_some', vSound _ (by omega), bnd_some', bnd_some', unS_at hi, wrap_succ hi (by omega), ift_ite])
  (fun k => by
   show slices_IndexFunc_api_Value_api_Value_of_value_Key_1_l1 l (k + 1) (l.length : Int) = _
   rw [slices_IndexFunc_api_Value_api_Value_of_value_Key_1_l1, show decide ((l.length : Int) < (l.length : Int)) = false by simp, ift_false]; rfl)
  BIG 0 (by omega) (by rw [big_val]; omega)
 have h' : slices_IndexFunc_api_Value_api_Value_of_value_Key_1_l1 l BIG 0 = (first (unS l) 0 l.length).elim (some (-1)) (fun i => some (i : Int)) := h
 rw [h']
 cases first (unS l) 0 l.length with
 | none => rfl
 | some i => simp [Option.elim, bnd_some']

theorem vKey_loop {l : List GValue} (hl : sizeL l < 100000000) (hs : ∀ x ∈ l, Sn x) : ∀ (m f i : Nat) (b : List Int), i + m = l.length → m < f → b.length + 30 * sizeL (l.drop i) ≤ 4294960000 → value_Key_l1 l f b (i : Int) = some (b ++ keyAll (l.drop i)) := by
 have hlen := sizeL_len l
 intro m
 induction m with
 | zero =>
  intro f i b hi hf hb
  obtain ⟨f, rfl⟩ : ∃ q, f = q + 1 := ⟨f - 1, by omega⟩
  rw [value_Key_l1, show decide ((i : Int) < (l.length : Int)) = false by simp; omega, ift_false, List.drop_of_length_le (by omega)]
  unfold value_Key_j1 slices_Clip_byte_byte
  rw [grd_pos (by omega)]
  simp [bnd_some', keyAll]
 | succ m ih =>
  intro f i b hi hf hb
  obtain ⟨f, rfl⟩ : ∃ q, f = q + 1 := ⟨f - 1, by omega⟩
  have hil : i < l.length := by omega
  have hsz := drop_size hil
  have hkl := keyS_len l[i]
  have := sizeL_mem (List.getElem_mem hil)
  rw [value_Key_l1, dec_lt hil, ift_true, at_nat hil, bnd_some', vkey BIG _ _ (hs _ (List.getElem_mem hil)) (by rw [big_val]; omega) (by omega) (by omega), bnd_some', wrap_succ hil (by omega)]
  simp only
  rw [ih f (i + 1) _ (by omega) (by omega) (by simp; omega), keyAll_drop hil, List.append_assoc]

theorem vKey (l : List GValue) (hl : sizeL l < 100000000) : value_Key l = some (keyR l) := by
 have hlen := sizeL_len l
 unfold value_Key keyR
 rw [vKey1 l hl, bnd_some']
 cases hf : first (unS l) 0 l.length with
 | some i => rfl
 | none =>
  have hg := first_none.1 hf
  have hs : ∀ x ∈ l, Sn x := fun x hx => by
   obtain ⟨i, hi, rfl⟩ := List.getElem_of_mem hx
   have := hg i (Nat.zero_le _) hi
   rw [unS_at hi] at this
   exact sn_of (by simpa using this)
  have := vKey_loop hl hs l.length BIG 0 [] (by omega) (by rw [big_val]; omega) (by simp; omega)
  rw [List.drop_zero, List.nil_append] at this
  simp only [Option.isSome_none, ift_false, Bool.false_eq_true, if_false]
  exact this

theorem keyAll_len : ∀ l, (keyAll l).length ≤ 30 * sizeL l
 | [] => by simp [keyAll]
 | x :: l => by
  have := keyS_len x
  have := keyAll_len l
  simp only [keyAll, sizeL, List.length_append]; omega

theorem keyR_len (l : List GValue) : (keyR l).length ≤ 30 * sizeL l := by
 unfold keyR
 split
 ·simp
 ·exact keyAll_len l

end Go.Proofs.YtdkmclmdemngfaaDoor
namespace Go.Proofs.YtdkmclmdemngfaaDoor
open Go Go.SX Go.SX.Cal Go.Lib
set_option linter.unusedVariables false
set_option linter.unusedSimpArgs false

def orr (x y : Int) : Int := if x ≠ 0 then x else y

theorem orr_zero (y : Int) : orr 0 y = y := by simp [orr]
theorem orr_z (x : Int) : orr x 0 = x := by unfold orr; split <;> omega
theorem orr_assoc (x y z : Int) : orr (orr x y) z = orr x (orr y z) := by
 unfold orr
 by_cases h : x = 0 <;> by_cases k : y = 0 <;> simp [h, k]
theorem c3_eq {a b : Int} (h : c3 a b = 0) : a = b := by unfold c3 at h; split at h <;> (try split at h) <;> omega

def cS (s t : ByteArray) : Int := if Op.bytesLess s.toList t.toList = true then -1 else if s.toList = t.toList then 0 else 1

def kk (k : Int) : Int := if k = 0 then 8 else k
def vvI (k sc n : Int) : Int := if k = 3 then n * p10 (12 - sc).toNat else n

mutual
def cmpV : GValue → GValue → Int
 | ⟨k, n, sc, s, it⟩, b => orr (c3 (kk k) (kk b.kind)) (if k = 0 then 0 else orr (c3 (vvI k sc n) (vvI b.kind b.scale b.n)) (orr (c3 sc b.scale) (orr (cS s b.s) (cmpL it b.items))))
def cmpL : List GValue → List GValue → Int
 | [], m => match m with
  | [] => 0
  | _ :: _ => -1
 | x :: l, m => match m with
  | [] => 1
  | y :: ys => orr (cmpV x y) (cmpL l ys)
end

theorem cmpV_eq (a b : GValue) : cmpV a b = orr (c3 (kk a.kind) (kk b.kind)) (if a.kind = 0 then 0 else orr (c3 (vvI a.kind a.scale a.n) (vvI b.kind b.scale b.n)) (orr (c3 a.scale b.scale) (orr (cS a.s b.s) (cmpL a.items b.items)))) := by
 obtain ⟨k, n, sc, s, it⟩ := a
 rw [cmpV]

/-! ### bytes -/

def lexI : List Int → List Int → Int
 | [], m => match m with
  | [] => 0
  | _ :: _ => -1
 | x :: l, m => match m with
  | [] => 1
  | y :: ys => orr (c3 x y) (lexI l ys)

theorem lexI_cons (x y : Int) (l m : List Int) : lexI (x :: l) (y :: m) = orr (c3 x y) (lexI l m) := rfl

theorem lexI_app : ∀ (p q X Y : List Int), p.length = q.length → lexI (p ++ X) (q ++ Y) = orr (lexI p q) (lexI X Y)
 | [], [], X, Y, _ => by rw [List.nil_append, List.nil_append]; exact (orr_zero _).symm
 | x :: p, y :: q, X, Y, h => by
  rw [List.cons_append, List.cons_append, lexI_cons, lexI_cons, lexI_app p q X Y (by simpa using h), orr_assoc]
 | [], _ :: _, _, _, h => by simp at h
 | _ :: _, [], _, _, h => by simp at h

theorem lexI_eq : ∀ (p q : List Int), lexI p q = 0 → p = q
 | [], [], _ => rfl
 | x :: p, y :: q, h => by
  rw [lexI_cons] at h
  unfold orr at h
  split at h
  ·contradiction
  ·rename_i hc
   rw [c3_eq (Classical.not_not.1 hc), lexI_eq p q h]
 | [], _ :: _, h => by simp [lexI] at h
 | _ :: _, [], h => by simp [lexI] at h

theorem c3_div (M N : Nat) : orr (c3 ((M / 256 : Nat) : Int) ((N / 256 : Nat) : Int)) (c3 ((M % 256 : Nat) : Int) ((N % 256 : Nat) : Int)) = c3 (M : Int) (N : Int) := by
 unfold orr c3
 split <;> (try split) <;> (try split) <;> (try split) <;> omega

theorem lex_beN : ∀ (k M N : Nat), M < 256 ^ k → N < 256 ^ k → lexI (beN k M) (beN k N) = c3 (M : Int) (N : Int)
 | 0, M, N, h1, h2 => by
  have : M = 0 := by simpa using h1
  have : N = 0 := by simpa using h2
  subst_vars; rfl
 | k + 1, M, N, h1, h2 => by
  have e1 : M / 256 < 256 ^ k := by rw [Nat.div_lt_iff_lt_mul (by decide)]; rw [Nat.pow_succ] at h1; omega
  have e2 : N / 256 < 256 ^ k := by rw [Nat.div_lt_iff_lt_mul (by decide)]; rw [Nat.pow_succ] at h2; omega
  simp only [beN]
  rw [lexI_app _ _ _ _ (by rw [beN_len, beN_len]), lex_beN k _ _ e1 e2, lexI_cons, show lexI [] [] = 0 from rfl, orr_z, c3_div]

def cB (l m : List UInt8) : Int := if Op.bytesLess l m = true then -1 else if l = m then 0 else 1

theorem cB_cons (a b : UInt8) (l m : List UInt8) : cB (a :: l) (b :: m) = orr (c3 a.toNat b.toNat) (cB l m) := by
 unfold cB orr c3
 simp only [Op.bytesLess, Bool.or_eq_true, Bool.and_eq_true, decide_eq_true_eq, beq_iff_eq, List.cons.injEq]
 by_cases h1 : a < b
 ·have h1' : (a.toNat : Int) < b.toNat := by have := UInt8.lt_iff_toNat_lt.1 h1; omega
  simp [h1, h1']
 ·have h1' : ¬ (a.toNat : Int) < b.toNat := fun h => h1 (UInt8.lt_iff_toNat_lt.2 (by omega))
  by_cases h2 : a = b
  ·subst h2
   simp
  ·have h3 : (b.toNat : Int) < a.toNat := by
    have : a.toNat ≠ b.toNat := fun h => h2 (UInt8.toNat_inj.1 h)
    omega
   simp [h1, h1', h2, h3]

theorem lex_text : ∀ (l m : List UInt8) (X Y : List Int), (∀ b ∈ l, b.toNat ≠ 0) → (∀ b ∈ m, b.toNat ≠ 0) →
  lexI (l.map (fun b => (b.toNat : Int)) ++ 0 :: X) (m.map (fun b => (b.toNat : Int)) ++ 0 :: Y) = orr (cB l m) (lexI X Y)
 | [], [], X, Y, _, _ => by
  show orr (c3 0 0) (lexI X Y) = _
  rw [c3_self]; rfl
 | [], b :: m, X, Y, _, hm => by
  have := hm b (by simp)
  show orr (c3 0 (b.toNat : Int)) _ = _
  have e : c3 0 (b.toNat : Int) = -1 := by unfold c3; rw [if_pos (by omega)]
  have e2 : cB [] (b :: m) = -1 := by simp [cB, Op.bytesLess]
  rw [e, e2]; rfl
 | a :: l, [], X, Y, hl, _ => by
  have := hl a (by simp)
  show orr (c3 (a.toNat : Int) 0) _ = _
  have e : c3 (a.toNat : Int) 0 = 1 := by unfold c3; rw [if_neg (by omega), if_pos (by omega)]
  have e2 : cB (a :: l) [] = 1 := by simp [cB, Op.bytesLess]
  rw [e, e2]; rfl
 | a :: l, b :: m, X, Y, hl, hm => by
  rw [List.map_cons, List.map_cons, List.cons_append, List.cons_append, lexI_cons, lex_text l m X Y (fun x hx => hl x (by simp [hx])) (fun x hx => hm x (by simp [hx])), cB_cons, orr_assoc]

theorem cS_cB (s t : ByteArray) : cS s t = cB s.data.toList t.data.toList := by
 have e1 : s.toList = s.data.toList := by simp [ByteArray.toList_eq]
 have e2 : t.toList = t.data.toList := by simp [ByteArray.toList_eq]
 unfold cS cB
 rw [e1, e2]

theorem cS_empty {s t : ByteArray} (hs : s.size = 0) (ht : t.size = 0) : cS s t = 0 := by
 have e1 : s.data.toList = [] := List.length_eq_zero_iff.1 (by simpa using hs)
 have e2 : t.data.toList = [] := List.length_eq_zero_iff.1 (by simpa using ht)
 rw [cS_cB, e1, e2]; rfl

/-! ### keys are ordered as values are -/

theorem text_nz {s : ByteArray} (h : textOk s = true) : ∀ b ∈ s.data.toList, b.toNat ≠ 0 := by
 unfold textOk at h
 simp only [Bool.and_eq_true, Option.isNone_iff_eq_none, first_none] at h
 intro b hb hz
 obtain ⟨i, hi, rfl⟩ := List.getElem_of_mem hb
 have hi' : i < s.size := by simpa using hi
 have := h.2.2 i (Nat.zero_le _) hi'
 unfold ctl byt at this
 rw [List.getD, List.getElem?_eq_getElem hi, Option.getD_some, hz] at this
 simp at this

theorem size0 {s : ByteArray} (h : s = ByteArray.empty) : s.size = 0 := by rw [h]; rfl

theorem plain_of {v : GValue} (h : plainOk v = true) :
  (v.kind = 1 → (v.n = 0 ∨ v.n = 1) ∧ v.scale = 0 ∧ v.s.size = 0 ∧ v.items = []) ∧
  (v.kind = 2 ∨ v.kind = 5 → v.n.natAbs < 1000000000000000000 ∧ v.scale = 0 ∧ v.s.size = 0 ∧ v.items = []) ∧
  (v.kind = 3 → v.n.natAbs < 1000000000000000000 ∧ 0 ≤ v.scale ∧ v.scale ≤ 12 ∧ v.s.size = 0 ∧ v.items = []) ∧
  (v.kind = 4 → v.n = 0 ∧ v.scale = 0 ∧ textOk v.s = true ∧ v.items = []) ∧
  (v.kind = 6 ∨ v.kind = 7 → v.n = 0 ∧ v.scale = 0 ∧ v.s.size = 0) := by
 unfold plainOk at h
 simp only at h
 by_cases h0 : v.kind = 0
 ·exact ⟨by omega, by omega, by omega, by omega, by omega⟩
 by_cases h1 : v.kind = 1
 ·simp [h1] at h
  exact ⟨fun _ => ⟨by omega, h.2.1, size0 h.2.2.1, h.2.2.2⟩, by omega, by omega, by omega, by omega⟩
 by_cases h2 : v.kind = 2
 ·simp [h2] at h
  exact ⟨by omega, fun _ => ⟨by omega, h.2.1, size0 h.2.2.1, h.2.2.2⟩, by omega, by omega, by omega⟩
 by_cases h3 : v.kind = 3
 ·simp [h3] at h
  exact ⟨by omega, by omega, fun _ => ⟨by omega, h.2.1.1, h.2.1.2, size0 h.2.2.1, h.2.2.2⟩, by omega, by omega⟩
 by_cases h4 : v.kind = 4
 ·simp [h4] at h
  exact ⟨by omega, by omega, by omega, fun _ => ⟨h.1.1, h.1.2, h.2.1, h.2.2⟩, by omega⟩
 by_cases h5 : v.kind = 5
 ·simp [h5] at h
  exact ⟨by omega, fun _ => ⟨by omega, h.2.1, size0 h.2.2.1, h.2.2.2⟩, by omega, by omega, by omega⟩
 by_cases h6 : v.kind = 6
 ·simp [h6] at h
  exact ⟨by omega, by omega, by omega, by omega, fun _ => ⟨h.1.1, h.1.2, size0 h.2.1⟩⟩
 by_cases h7 : v.kind = 7
 ·simp [h7] at h
  exact ⟨by omega, by omega, by omega, by omega, fun _ => ⟨h.1.1, h.1.2, size0 h.2.1⟩⟩
 ·simp [h0, h1, h2, h3, h4, h5, h6, h7] at h

theorem c3_add (a b k : Int) : c3 (a + k) (b + k) = c3 a b := by unfold c3; split <;> split <;> (try split) <;> (try split) <;> omega

theorem p10_12 {sc : Int} (h0 : 0 ≤ sc) (h1 : sc ≤ 12) : p10 (12 - sc).toNat ≤ 1000000000000 := by
 have : (12 - sc).toNat ≤ 12 := by omega
 rw [p10_pow]
 have h := Nat.pow_le_pow_right (show 0 < 10 by decide) this
 omega

theorem mul_small {n P : Int} (hn : n.natAbs < 1000000000000000000) (h0 : 0 ≤ P) (hP : P ≤ 1000000000000) : (n * P).natAbs < 1000000000000000000000000000001 := by
 rw [Int.natAbs_mul]
 have h1 : P.natAbs ≤ 1000000000000 := by omega
 have := Nat.mul_le_mul (Nat.le_of_lt hn) h1
 omega

theorem keyL_cons (x : GValue) (l : List GValue) : keyL (x :: l) = 1 :: (keyS x ++ keyL l) := by simp only [keyL]; rfl

theorem lex_key : ∀ (N : Nat) (a b : GValue) (X Y : List Int), sizeV a < N → Sn a → Sn b → lexI (keyS a ++ X) (keyS b ++ Y) = orr (cmpV a b) (lexI X Y)
 | 0, a, b, X, Y, hN, _, _ => by omega
 | N + 1, a, b, X, Y, hN, ha, hb => by
  obtain ⟨ka0, ka1⟩ := (plain_kind ha.pl).2.2
  obtain ⟨kb0, kb1⟩ := (plain_kind hb.pl).2.2
  obtain ⟨a1, a2, a3, a4, a5⟩ := plain_of ha.pl
  obtain ⟨b1, b2, b3, b4, b5⟩ := plain_of hb.pl
  have hit : ∀ (l m : List GValue), (∀ x ∈ l, Sn x) → (∀ x ∈ m, Sn x) → sizeL l < N → lexI (keyL l ++ 0 :: X) (keyL m ++ 0 :: Y) = orr (cmpL l m) (lexI X Y) := by
   intro l
   induction l with
   | nil =>
    intro m _ hm _
    cases m with
    | nil => show orr (c3 0 0) (lexI X Y) = _; rw [c3_self]; rfl
    | cons y m => rw [keyL_cons]; rfl
   | cons x l ih =>
    intro m hl hm hs
    simp only [sizeL] at hs
    cases m with
    | nil => rw [keyL_cons]; rfl
    | cons y m =>
     rw [keyL_cons, keyL_cons, List.cons_append, List.cons_append, lexI_cons, c3_self, orr_zero, List.append_assoc, List.append_assoc,
      lex_key N x y _ _ (by omega) (hl x (by simp)) (hm y (by simp)), ih m (fun z hz => hl z (by simp [hz])) (fun z hz => hm z (by simp [hz])) (by omega), ← orr_assoc]
     rfl
  have hk : ∀ (v : GValue), 0 ≤ v.kind → v.kind ≤ 7 → ∃ t, keyS v = kk v.kind :: t := by
   intro v h0 h7
   rw [key_step]
   unfold kk
   rw [wrap8 h0 (by omega)]
   split
   ·exact ⟨_, rfl⟩
   split
   ·exact ⟨_, rfl⟩
   split
   ·exact ⟨_, rfl⟩
   split
   ·exact ⟨_, rfl⟩
   split
   ·exact ⟨_, rfl⟩
   ·exact ⟨_, rfl⟩
  rw [cmpV_eq]
  by_cases hkk : a.kind = b.kind
  ·rw [hkk, c3_self, orr_zero]
   by_cases k0 : b.kind = 0
   ·rw [if_pos k0, orr_zero, key_step a, key_step b, if_pos (hkk.trans k0), if_pos k0]
    show orr (c3 8 8) (lexI X Y) = _
    rw [c3_self, orr_zero]
   rw [if_neg k0, key_step a, key_step b, if_neg (by omega), if_neg k0, hkk, wrap8 kb0 (by omega)]
   by_cases k1 : b.kind = 1
   ·obtain ⟨x1, x2, x3, x4⟩ := a1 (by omega)
    obtain ⟨y1, y2, y3, y4⟩ := b1 k1
    rw [if_pos k1, if_pos k1, wrap8 (by omega) (by omega), wrap8 (by omega) (by omega)]
    show orr (c3 b.kind b.kind) (orr (c3 a.n b.n) (lexI X Y)) = _
    rw [c3_self, orr_zero, x2, y2, c3_self, orr_zero, cS_empty x3 y3, orr_zero, x4, y4]
    unfold vvI
    rw [if_neg (by omega), if_neg (by omega)]
    show _ = orr (orr (c3 a.n b.n) 0) _
    rw [orr_z]
   rw [if_neg k1, if_neg k1]
   by_cases k2 : b.kind = 2 ∨ b.kind = 5
   ·obtain ⟨x1, x2, x3, x4⟩ := a2 (by omega)
    obtain ⟨y1, y2, y3, y4⟩ := b2 k2
    rw [if_pos k2, if_pos k2, List.cons_append, List.cons_append, lexI_cons, c3_self, orr_zero, lexI_app _ _ _ _ (by rw [beN_len, beN_len]), lex_beN 8 _ _ (by omega) (by omega),
     Int.toNat_of_nonneg (by omega), Int.toNat_of_nonneg (by omega), c3_add, x2, y2, c3_self, orr_zero, cS_empty x3 y3, orr_zero, x4, y4]
    unfold vvI
    rw [if_neg (by omega), if_neg (by omega)]
    show _ = orr (orr (c3 a.n b.n) 0) _
    rw [orr_z]
   rw [if_neg k2, if_neg k2]
   by_cases k3 : b.kind = 3
   ·obtain ⟨x1, x2, x3, x4, x5⟩ := a3 (by omega)
    obtain ⟨y1, y2, y3, y4, y5⟩ := b3 k3
    have m1 := mul_small x1 (Int.le_of_lt (p10n (12 - a.scale).toNat)) (p10_12 x2 x3)
    have m2 := mul_small y1 (Int.le_of_lt (p10n (12 - b.scale).toNat)) (p10_12 y2 y3)
    have v1 : vvI b.kind a.scale a.n = a.n * p10 (12 - a.scale).toNat := by unfold vvI; rw [if_pos k3]
    have v2 : vvI b.kind b.scale b.n = b.n * p10 (12 - b.scale).toNat := by unfold vvI; rw [if_pos k3]
    rw [v1, v2]
    generalize a.n * p10 (12 - a.scale).toNat = U at *
    generalize b.n * p10 (12 - b.scale).toNat = V at *
    rw [if_pos k3, if_pos k3, List.cons_append, List.cons_append, lexI_cons, c3_self, orr_zero, List.append_assoc, List.append_assoc, lexI_app _ _ _ _ (by rw [beN_len, beN_len]), lex_beN 16 _ _ (by omega) (by omega),
     Int.toNat_of_nonneg (by omega), Int.toNat_of_nonneg (by omega), c3_add, wrap8 (by omega) (by omega), wrap8 (by omega) (by omega)]
    show orr (c3 U V) (orr (c3 a.scale b.scale) (lexI X Y)) = _
    rw [cS_empty x4 y4, orr_zero, x5, y5]
    show _ = orr (orr (c3 U V) (orr (c3 a.scale b.scale) 0)) _
    rw [orr_z, orr_assoc]
   rw [if_neg k3, if_neg k3]
   have w1 : vvI b.kind a.scale a.n = a.n := by unfold vvI; rw [if_neg k3]
   have w2 : vvI b.kind b.scale b.n = b.n := by unfold vvI; rw [if_neg k3]
   rw [w1, w2]
   by_cases k4 : b.kind = 4
   ·obtain ⟨x1, x2, x3, x4⟩ := a4 (by omega)
    obtain ⟨y1, y2, y3, y4⟩ := b4 k4
    rw [if_pos k4, if_pos k4, List.cons_append, List.cons_append, lexI_cons, c3_self, orr_zero, List.append_assoc, List.append_assoc]
    show lexI (a.s.data.toList.map (fun b => (b.toNat : Int)) ++ 0 :: X) (b.s.data.toList.map (fun b => (b.toNat : Int)) ++ 0 :: Y) = _
    rw [lex_text _ _ _ _ (text_nz x3) (text_nz y3), x1, y1, x2, y2, c3_self, orr_zero, orr_zero, x4, y4, cS_cB]
    show _ = orr (orr (cB a.s.data.toList b.s.data.toList) 0) _
    rw [orr_z]
   rw [if_neg k4, if_neg k4]
   obtain ⟨x1, x2, x3⟩ := a5 (by omega)
   obtain ⟨y1, y2, y3⟩ := b5 (by omega)
   have hs := sizeV_eq a
   rw [List.cons_append, List.cons_append, lexI_cons, c3_self, orr_zero, List.append_assoc, List.append_assoc, x1, y1, x2, y2, c3_self, orr_zero, orr_zero, cS_empty x3 y3, orr_zero]
   exact hit a.items b.items ha.it hb.it (by omega)
  ·obtain ⟨t, ht⟩ := hk a ka0 ka1
   obtain ⟨u, hu⟩ := hk b kb0 kb1
   have hne : c3 (kk a.kind) (kk b.kind) ≠ 0 := fun h => hkk (by have := c3_eq h; unfold kk at this; split at this <;> split at this <;> omega)
   rw [ht, hu, List.cons_append, List.cons_append, lexI_cons]
   unfold orr
   simp [hne]

end Go.Proofs.YtdkmclmdemngfaaDoor
namespace Go.Proofs.YtdkmclmdemngfaaDoor
open Go Go.SX Go.SX.Cal Go.Lib
set_option linter.unusedVariables false
set_option linter.unusedSimpArgs false

theorem compI (a b : Int) : cmp_Compare_int a b = some (c3 a b) := by
 unfold cmp_Compare_int cmp_isNaN_int c3
 simp only [bnd_some', bne_self_eq_false, ift_false]
 by_cases h : a < b
 ·simp [h, ift_ite]
 ·by_cases k : b < a <;> simp [h, k, ift_ite]

theorem compS (a b : ByteArray) : cmp_Compare_string a b = some (cS a b) := by
 unfold cmp_Compare_string cmp_isNaN_string cS
 simp only [bnd_some', beq_self_eq_true, Bool.not_true, ift_false]
 by_cases h : Op.bytesLess a.toList b.toList = true
 ·simp [h, ift_ite]
 ·have h' : Op.bytesLess a.toList b.toList = false := by simpa using h
  by_cases k : a.toList = b.toList
  ·rw [k] at h' ⊢
   simp [h', ift_ite]
  ·simp [h', k, ift_ite]

theorem or_step {p : List Int} {k i : Nat} {x : Int} (h : p[i]? = some x) (hi : i < 1000) : cmp_Or_int_l1 p (k + 1) (i : Int) = if x ≠ 0 then some x else cmp_Or_int_l1 p k ((i + 1 : Nat) : Int) := by
 have hlt := (List.getElem?_eq_some_iff.1 h).1
 rw [cmp_Or_int_l1, show decide ((i : Int) < (p.length : Int)) = true by simp [hlt], ift_true]
 have : at? p (i : Int) = some x := by unfold at?; simp [h]
 rw [this]
 simp only [bnd_some']
 rw [w64 (by omega) (by omega), show (i : Int) + 1 = ((i + 1 : Nat) : Int) by omega]
 by_cases hx : x = 0
 ·simp [hx, ift_ite]
 ·simp [hx, ift_ite]

theorem or_end {p : List Int} {k : Nat} : cmp_Or_int_l1 p (k + 1) (p.length : Int) = some 0 := by
 rw [cmp_Or_int_l1, show decide ((p.length : Int) < (p.length : Int)) = false by simp, ift_false]
 rfl

theorem or2 (x y : Int) : cmp_Or_int [x, y] = some (orr x y) := by
 unfold cmp_Or_int orr
 have hB : BIG = 1152921504606846973 + 1 + 1 + 1 := rfl
 have h0 := or_step (p := [x, y]) (k := 1152921504606846973 + 1 + 1) (i := 0) (x := x) rfl (by decide)
 have h1 := or_step (p := [x, y]) (k := 1152921504606846973 + 1) (i := 1) (x := y) rfl (by decide)
 have h2 := or_end (p := [x, y]) (k := 1152921504606846973)
 rw [hB]
 refine Eq.trans h0 ?_
 rw [h1]
 refine Eq.trans (b := if x ≠ 0 then some x else if y ≠ 0 then some y else some 0) (by rw [← h2]; rfl) ?_
 by_cases hx : x = 0 <;> by_cases hy : y = 0 <;> simp [hx, hy]

theorem or3 (x y z : Int) : cmp_Or_int [x, y, z] = some (orr x (orr y z)) := by
 unfold cmp_Or_int orr
 have hB : BIG = 1152921504606846972 + 1 + 1 + 1 + 1 := rfl
 have h0 := or_step (p := [x, y, z]) (k := 1152921504606846972 + 1 + 1 + 1) (i := 0) (x := x) rfl (by decide)
 have h1 := or_step (p := [x, y, z]) (k := 1152921504606846972 + 1 + 1) (i := 1) (x := y) rfl (by decide)
 have h2 := or_step (p := [x, y, z]) (k := 1152921504606846972 + 1) (i := 2) (x := z) rfl (by decide)
 have h3 := or_end (p := [x, y, z]) (k := 1152921504606846972)
 rw [hB]
 refine Eq.trans h0 ?_
 rw [h1, h2]
 refine Eq.trans (b := if x ≠ 0 then some x else if y ≠ 0 then some y else if z ≠ 0 then some z else some 0) (by rw [← h3]; rfl) ?_
 by_cases hx : x = 0 <;> by_cases hy : y = 0 <;> by_cases hz : z = 0 <;> simp [hx, hy, hz]

theorem cmpf_loop (f : GValue → GValue → Option Int) (p1 p2 : List GValue) (hl : p1.length < 1000000000000000) (hf : ∀ x ∈ p1, ∀ y ∈ p2, f x y = some (cmpV x y)) : ∀ (k i : Nat), i ≤ p1.length → i ≤ p2.length → p1.length < i + k →
  slices_CompareFunc_api_Value_api_Value_api_Value_api_Value_of_value_Compare_l1 f p1 p2 k (i : Int) = some (cmpL (p1.drop i) (p2.drop i)) := by
 intro k
 induction k with
 | zero => intro i h1 h2 h3; omega
 | succ k ih =>
  intro i h1 h2 h3
  rw [slices_CompareFunc_api_Value_api_Value_api_Value_api_Value_of_value_Compare_l1]
  by_cases hi : i < p1.length
  ·have e1 : p1.drop i = p1[i] :: p1.drop (i + 1) := List.drop_eq_getElem_cons hi
   have a1 : at? p1 (i : Int) = some p1[i] := by unfold at?; simp [hi]
   rw [show decide ((i : Int) < (p1.length : Int)) = true by simp [hi], ift_true, a1, e1]
   simp only [bnd_some']
   by_cases hj : i < p2.length
   ·have e2 : p2.drop i = p2[i] :: p2.drop (i + 1) := List.drop_eq_getElem_cons hj
    have a2 : at? p2 (i : Int) = some p2[i] := by unfold at?; simp [hj]
    rw [show decide ((p2.length : Int) ≤ (i : Int)) = false by simp; omega, ift_false, a2, e2]
    simp only [bnd_some']
    rw [hf _ (List.getElem_mem hi) _ (List.getElem_mem hj)]
    simp only [bnd_some', cmpL]
    unfold orr
    by_cases hc : cmpV p1[i] p2[i] = 0
    ·have e : (cmpV p1[i] p2[i] != 0) = false := by simp [hc]
     rw [e, ift_false, w64 (by omega) (by omega), show (i : Int) + 1 = ((i + 1 : Nat) : Int) by omega, ih (i + 1) (by omega) (by omega) (by omega), if_neg (by simp [hc])]
    ·have e : (cmpV p1[i] p2[i] != 0) = true := by simp [hc]
     rw [e, ift_true, if_pos hc]
   ·have e2 : p2.drop i = [] := List.drop_of_length_le (by omega)
    rw [show decide ((p2.length : Int) ≤ (i : Int)) = true by simp; omega, ift_true, e2]
    rfl
  ·have : i = p1.length := by omega
   subst this
   rw [show decide ((p1.length : Int) < (p1.length : Int)) = false by simp, ift_false, List.drop_length]
   unfold slices_CompareFunc_api_Value_api_Value_api_Value_api_Value_of_value_Compare_j1
   by_cases hj : p1.length < p2.length
   ·have e2 : p2.drop p1.length = p2[p1.length] :: p2.drop (p1.length + 1) := List.drop_eq_getElem_cons hj
    rw [show decide ((p1.length : Int) < (p2.length : Int)) = true by simp [hj], ift_true, e2]
    rfl
   ·have e2 : p2.drop p1.length = [] := List.drop_of_length_le (by omega)
    rw [show decide ((p1.length : Int) < (p2.length : Int)) = false by simp; omega, ift_false, e2]
    rfl

theorem withinO (a b c : Int) : value_within a b c = some (decide (b ≤ a ∧ a ≤ c)) := by
 unfold value_within value_within_j1
 by_cases h : b ≤ a <;> by_cases k : a ≤ c <;> simp [h, k, ift_ite]

theorem wcomp (s t : Bool) (A B : Nat) (hv : A + B < 115792089237316195423570985008687907853269984665640564039457584007913129639936) : value_wide_compare (mkW s A) (mkW t B) = some (c3 (sgv s A) (sgv t B)) := by
 obtain ⟨u, C, h1, h2, h3⟩ := minus_mk s t A B hv
 unfold value_wide_compare
 rw [eta_w, eta_w, h1, bnd_some', eta_w, zero_mk u C (by omega), bnd_some']
 by_cases hC : C = 0
 ·subst hC
  have : sgv u 0 = 0 := by unfold sgv; split <;> rfl
  rw [this] at h2
  have e : sgv s A = sgv t B := by omega
  rw [e, c3_self]; rfl
 ·rw [show decide (C = 0) = false by simpa using hC, ift_false]
  show ift u _ _ = _
  unfold sgv at h2
  cases u with
  | true =>
   simp only [if_true] at h2
   rw [ift_true]
   have : sgv s A < sgv t B := by unfold sgv; omega
   unfold c3; rw [if_pos this]
  | false =>
   simp only [Bool.false_eq_true, if_false] at h2
   rw [ift_false]
   have : sgv t B < sgv s A := by unfold sgv; omega
   unfold c3; rw [if_neg (by omega), if_pos this]

theorem sgv_scaled (n : Int) (d : Nat) : sgv (decide (n < 0)) (n.natAbs * 10 ^ d) = n * p10 d := by
 unfold sgv
 rw [p10_pow]
 by_cases h : n < 0
 ·rw [if_pos (by simpa using h), Int.natCast_mul, ← Int.neg_mul]
  congr 1
  omega
 ·rw [if_neg (by simpa using h), Int.natCast_mul]
  congr 1
  omega

theorem scaled_small {n : Int} {d : Nat} (hn : n.natAbs < 1000000000000000000) (hd : d ≤ 12) : n.natAbs * 10 ^ d ≤ 1000000000000000000000000000000 := by
 have h := Nat.pow_le_pow_right (show 0 < 10 by decide) hd
 have := Nat.mul_le_mul (Nat.le_of_lt hn) h
 omega

theorem compare_eq : ∀ (N : Nat) (a b : GValue) (k : Nat), sizeV a ≤ N → sizeV a < 1000000000000000 → Sn a → Sn b → 3 * N + 3 ≤ k → value_Compare k a b = some (cmpV a b) := by
 intro N
 induction N with
 | zero => intro a b k h; have := sizeV_eq a; omega
 | succ N ih =>
  intro a b k hN hbig ha hb hk
  obtain ⟨k', rfl⟩ : ∃ k', k = k' + 1 + 1 + 1 := ⟨k - 3, by omega⟩
  have hsz := sizeV_eq a
  have hlen := sizeL_len a.items
  obtain ⟨ka0, ka1⟩ := (plain_kind ha.pl).2.2
  obtain ⟨kb0, kb1⟩ := (plain_kind hb.pl).2.2
  have hitems : slices_CompareFunc_api_Value_api_Value_api_Value_api_Value_of_value_Compare (k' + 1) a.items b.items = some (cmpL a.items b.items) := by
   rw [slices_CompareFunc_api_Value_api_Value_api_Value_api_Value_of_value_Compare]
   have := cmpf_loop (value_Compare k') a.items b.items (by omega) (fun x hx y hy => by
    have h1 := sizeL_mem hx
    exact ih x y k' (by omega) (by omega) (ha.it x hx) (hb.it y hy) (by omega)) BIG 0 (Nat.zero_le _) (Nat.zero_le _) (by rw [big_val]; omega)
   simpa using this
  have hrest : value_rest (k' + 1 + 1) a b = some (orr (c3 a.scale b.scale) (orr (cS a.s b.s) (cmpL a.items b.items))) := by
   rw [value_rest]
   simp only [compI, compS, bnd_some', hitems, or3]
  rw [value_Compare, cmpV_eq]
  by_cases hkk : a.kind = b.kind
  ·rw [show (a.kind != b.kind) = false by simp [hkk], ift_false, hkk, c3_self, orr_zero]
   by_cases h0 : b.kind = 0
   ·rw [beq_iff_eq.2 h0, ift_true, if_pos h0]
   ·rw [beq_eq_false_iff_ne.2 h0, ift_false, if_neg h0]
    by_cases h3 : b.kind = 3
    ·obtain ⟨x1, x2, x3, _⟩ := (plain_of ha.pl).2.2.1 (by omega)
     obtain ⟨y1, y2, y3, _⟩ := (plain_of hb.pl).2.2.1 h3
     rw [beq_iff_eq.2 h3, ift_true, withinO, bnd_some', withinO, bnd_some', show decide (0 ≤ a.scale ∧ a.scale ≤ 12) = true by simp; omega, show decide (0 ≤ b.scale ∧ b.scale ≤ 12) = true by simp; omega, ift_true]
     unfold value_Compare_j1
     have d1 : IntKind.i64.wrap (12 - a.scale) = (((12 - a.scale).toNat : Nat) : Int) := by rw [w64 (by omega) (by omega)]; omega
     have d2 : IntKind.i64.wrap (12 - b.scale) = (((12 - b.scale).toNat : Nat) : Int) := by rw [w64 (by omega) (by omega)]; omega
     have s1 := scaled_small x1 (show (12 - a.scale).toNat ≤ 12 by omega)
     have s2 := scaled_small y1 (show (12 - b.scale).toNat ≤ 12 by omega)
     rw [ift_true, d1, d2, scaled_mk _ _ (by omega) (by omega) (by omega) (by omega), bnd_some', scaled_mk _ _ (by omega) (by omega) (by omega) (by omega), bnd_some', eta_w, eta_w,
      wcomp _ _ _ _ (by omega), bnd_some', hrest, bnd_some', or2, bnd_some', sgv_scaled, sgv_scaled]
     unfold vvI
     rw [if_pos h3, if_pos h3]
    ·rw [beq_eq_false_iff_ne.2 h3, ift_false]
     unfold value_Compare_j2
     rw [compI, bnd_some', hrest, bnd_some', or2, bnd_some']
     unfold vvI
     rw [if_neg h3, if_neg h3]
  ·rw [show (a.kind != b.kind) = true by simp [hkk], ift_true]
   have hne : c3 (kk a.kind) (kk b.kind) ≠ 0 := fun h => hkk (by have := c3_eq h; unfold kk at this; split at this <;> split at this <;> omega)
   have e : ∀ z : Int, orr (c3 (kk a.kind) (kk b.kind)) z = c3 (kk a.kind) (kk b.kind) := fun z => by unfold orr; rw [if_pos hne]
   rw [e]
   by_cases h0 : a.kind = 0
   ·rw [beq_iff_eq.2 h0, ift_true]
    have q1 : kk a.kind = 8 := by unfold kk; rw [if_pos h0]
    have q2 : kk b.kind = b.kind := by unfold kk; rw [if_neg (fun h => hkk (h0.trans h.symm))]
    rw [q1, q2]
    unfold c3
    rw [if_neg (by omega), if_pos (by omega)]
   ·rw [beq_eq_false_iff_ne.2 h0, ift_false]
    by_cases h1 : b.kind = 0
    ·rw [beq_iff_eq.2 h1, ift_true]
     have q1 : kk b.kind = 8 := by unfold kk; rw [if_pos h1]
     have q2 : kk a.kind = a.kind := by unfold kk; rw [if_neg h0]
     rw [q1, q2]
     unfold c3
     rw [if_pos (by omega)]
    ·rw [beq_eq_false_iff_ne.2 h1, ift_false, compI, bnd_some']
     unfold kk
     rw [if_neg h0, if_neg h1]

theorem keyS_ne (v : GValue) : keyS v ≠ [] := by
 rw [key_step]
 split
 ·simp
 split
 ·simp
 split
 ·simp
 split
 ·simp
 split <;> simp

/-! ### bytes of keys -/

theorem u8w (x : Int) : 0 ≤ IntKind.u8.wrap x ∧ IntKind.u8.wrap x < 256 := by
 simp only [IntKind.wrap, IntKind.bits, IntKind.signed]
 simp only [Bool.false_and, Bool.false_eq_true, if_false]
 omega

def byN (l : List Int) : Prop := ∀ e ∈ l, 0 ≤ e ∧ e < 256

theorem byN_app {l m : List Int} (h : byN l) (k : byN m) : byN (l ++ m) := fun e he => by
 rcases List.mem_append.1 he with he | he
 ·exact h e he
 ·exact k e he

theorem byN_cons {x : Int} {l : List Int} (hx : 0 ≤ x ∧ x < 256) (h : byN l) : byN (x :: l) := fun e he => by
 rcases List.mem_cons.1 he with rfl | he
 ·exact hx
 ·exact h e he

theorem byN_nil : byN [] := fun e he => by cases he

theorem byN_beN : ∀ k N, byN (beN k N)
 | 0, N => byN_nil
 | k + 1, N => byN_app (byN_beN k _) (byN_cons (by omega) byN_nil)

theorem byN_text (s : ByteArray) : byN (bytesL s) := fun e he => by
 unfold bytesL at he
 obtain ⟨b, _, rfl⟩ := List.mem_map.1 he
 have := b.toNat_lt
 omega

mutual
theorem byN_key : ∀ v, byN (keyS v)
 | ⟨k, n, sc, s, it⟩ => by
  have hi := byN_keyL it
  have z : byN [0] := byN_cons (by omega) byN_nil
  simp only [keyS]
  split
  ·exact byN_cons (by omega) byN_nil
  split
  ·exact byN_cons (u8w _) (byN_cons (u8w _) byN_nil)
  split
  ·exact byN_cons (u8w _) (byN_beN _ _)
  split
  ·exact byN_cons (u8w _) (byN_app (byN_beN _ _) (byN_cons (u8w _) byN_nil))
  split
  ·exact byN_cons (u8w _) (byN_app (byN_text _) z)
  ·exact byN_cons (u8w _) (byN_app hi z)
theorem byN_keyL : ∀ l, byN (keyL l)
 | [] => by simp only [keyL]; exact byN_nil
 | x :: l => by
  rw [keyL_cons]
  exact byN_cons (by omega) (byN_app (byN_key x) (byN_keyL l))
end

theorem byN_all : ∀ l, byN (keyAll l)
 | [] => byN_nil
 | x :: l => byN_app (byN_key x) (byN_all l)

theorem cmpB_lex : ∀ (a b : List Int), byN a → byN b → Lib.compareBytes (a.map fun n => UInt8.ofNat n.toNat) (b.map fun n => UInt8.ofNat n.toNat) = lexI a b
 | [], [], _, _ => rfl
 | [], _ :: _, _, _ => rfl
 | _ :: _, [], _, _ => rfl
 | x :: a, y :: b, ha, hb => by
  have hx := ha x (by simp)
  have hy := hb y (by simp)
  have ih := cmpB_lex a b (fun e he => ha e (by simp [he])) (fun e he => hb e (by simp [he]))
  have t : ∀ z : Int, 0 ≤ z ∧ z < 256 → (UInt8.ofNat z.toNat).toNat = z.toNat := fun z hz => by
   simp only [UInt8.toNat_ofNat']
   omega
  have lt : ∀ z w : Int, 0 ≤ z ∧ z < 256 → 0 ≤ w ∧ w < 256 → (UInt8.ofNat z.toNat < UInt8.ofNat w.toNat ↔ z < w) := fun z w hz hw => by
   rw [UInt8.lt_iff_toNat_lt, t z hz, t w hw]; omega
  rw [List.map_cons, List.map_cons, lexI_cons]
  unfold Lib.compareBytes
  rw [ih]
  unfold orr c3
  by_cases h1 : x < y
  ·rw [if_pos ((lt x y hx hy).2 h1)]; simp [h1]
  ·rw [if_neg (fun h => h1 ((lt x y hx hy).1 h))]
   by_cases h2 : y < x
   ·rw [if_pos ((lt y x hy hx).2 h2)]; simp [h1, h2]
   ·rw [if_neg (fun h => h2 ((lt y x hy hx).1 h))]; simp [h1, h2]

theorem cmpB_eq {a b : List Int} (ha : byN a) (hb : byN b) : cmpB a b = lexI a b := cmpB_lex a b ha hb

theorem lex_all : ∀ (l m : List GValue), (∀ x ∈ l, Sn x) → (∀ x ∈ m, Sn x) → lexI (keyAll l) (keyAll m) = cmpL l m
 | [], [], _, _ => rfl
 | [], y :: m, _, _ => by
  have := keyS_ne y
  simp only [keyAll]
  cases h : keyS y with
  | nil => exact absurd h this
  | cons e t => rfl
 | x :: l, [], _, _ => by
  have := keyS_ne x
  simp only [keyAll]
  cases h : keyS x with
  | nil => exact absurd h this
  | cons e t => rfl
 | x :: l, y :: m, hl, hm => by
  simp only [keyAll]
  rw [lex_key (sizeV x + 1) x y _ _ (by omega) (hl x (by simp)) (hm y (by simp)), lex_all l m (fun z hz => hl z (by simp [hz])) (fun z hz => hm z (by simp [hz]))]
  rfl

end Go.Proofs.YtdkmclmdemngfaaDoor
namespace Go.Proofs.YtdkmclmdemngfaaDoor
open Go Go.SX Go.SX.Cal Go.Lib
set_option linter.unusedVariables false
set_option linter.unusedSimpArgs false

theorem hash1 : value_Hash ⟨2, 1, 0, ByteArray.empty, []⟩ = some 9961030517181326514 := by kernel_rfl

theorem hashes1 (b : List Int) (hb : b.length < 1000000000) : ∀ (m f i : Nat) (x : Int), i + m = b.length → m < f → ∃ h, value_HashBytes_l1 b f x (i : Int) = some h := by
 intro m
 induction m with
 | zero =>
  intro f i x hi hf
  obtain ⟨f, rfl⟩ : ∃ q, f = q + 1 := ⟨f - 1, by omega⟩
  rw [value_HashBytes_l1, show decide ((i : Int) < (b.length : Int)) = false by simp; omega, ift_false]
  exact ⟨x, rfl⟩
 | succ m ih =>
  intro f i x hi hf
  obtain ⟨f, rfl⟩ : ∃ q, f = q + 1 := ⟨f - 1, by omega⟩
  have hil : i < b.length := by omega
  rw [value_HashBytes_l1, dec_lt hil, ift_true, at_nat hil]
  simp only [bnd_some']
  rw [wrap_succ hil hb]
  exact ih f (i + 1) _ (by omega) (by omega)

theorem hash_of (v : GValue) (hv : sizeV v < 10000000) : ∃ h, value_HashBytes (keyR [v]) = some h ∧ value_Hash v = some h := by
 have hl : sizeL [v] < 100000000 := by simp only [sizeL]; omega
 have hk := keyR_len [v]
 simp only [sizeL] at hk
 obtain ⟨h, h1⟩ := hashes1 (keyR [v]) (by omega) (keyR [v]).length BIG 0 14695981039346656037 (by omega) (by rw [big_val]; omega)
 have e : value_HashBytes (keyR [v]) = some h := h1
 refine ⟨h, e, ?_⟩
 unfold value_Hash
 rw [vKey _ hl, bnd_some', e]; rfl

theorem keyR_all {l : List GValue} (h : ∀ x ∈ l, soundB x = true) : keyR l = keyAll l := by
 unfold keyR
 have : first (unS l) 0 l.length = none := first_none.2 (fun j _ hj => by rw [unS_at hj, h _ (List.getElem_mem hj)]; rfl)
 rw [this]; rfl

theorem cmp_zero {a b : GValue} (ha : soundB a = true) (hb : soundB b = true) (h : cmpV a b = 0) : keyR [a] = keyR [b] := by
 rw [keyR_all (fun x hx => by rw [List.mem_singleton.1 hx]; exact ha), keyR_all (fun x hx => by rw [List.mem_singleton.1 hx]; exact hb)]
 have := lex_key (sizeV a + 1) a b [] [] (by omega) (sn_of ha) (sn_of hb)
 rw [h, orr_zero, List.append_nil, List.append_nil] at this
 simp only [keyAll]
 rw [lexI_eq _ _ this]

theorem cmpL_nil_l (m : List GValue) : cmpL [] m = if m.length = 0 then 0 else -1 := by cases m <;> simp [cmpL]
theorem cmpL_nil_r (l : List GValue) : cmpL l [] = if l.length = 0 then 0 else 1 := by cases l <;> simp [cmpL]

section
variable {l m : List GValue} (hl : sizeL l < 5000000) (hm : sizeL m < 5000000) (sl : ∀ x ∈ l, soundB x = true) (sm : ∀ x ∈ m, soundB x = true)
include hl hm sl sm

theorem ord_j6 (w : Int) (hw : cmpL l m = w) : law1_ValueKeysAreOrdered_j6 l m w = some true := by
 unfold law1_ValueKeysAreOrdered_j6 bytes_Compare law1_ValueKeysAreOrdered_j7
 rw [vKey l (by omega), bnd_some', vKey m (by omega), bnd_some', keyR_all sl, keyR_all sm, cmpB_eq (byN_all l) (byN_all m), lex_all l m (fun x hx => sn_of (sl x hx)) (fun x hx => sn_of (sm x hx)), hw, bnd_some', beq_self_eq_true]
 by_cases h0 : l.length = 0
 ·rw [show ((l.length : Int) == 0) = true from beq_iff_eq.2 (by omega), ift_true]
 ·rw [show ((l.length : Int) == 0) = false from beq_eq_false_iff_ne.2 (by omega), ift_false]
  cases l with
  | nil => exact absurd rfl h0
  | cons x l =>
   have := keyS_ne x
   have h : 0 < (keyAll (x :: l)).length := by
    simp only [keyAll, List.length_append]
    have := List.length_pos_iff.2 this
    omega
   rw [show decide ((0 : Int) < ((keyAll (x :: l)).length : Int)) = true by simp only [decide_eq_true_eq]; omega, ift_true]

theorem ord_j4 (w : Int) (i : Nat) (h1 : i ≤ l.length) (h2 : i ≤ m.length) (h3 : w = 0 → (l.length ≤ i ∨ m.length ≤ i) ∧ cmpL l m = cmpL (l.drop i) (m.drop i)) (h4 : w ≠ 0 → cmpL l m = w) : law1_ValueKeysAreOrdered_j4 l m w = some true := by
 unfold law1_ValueKeysAreOrdered_j4 law1_ValueKeysAreOrdered_j5
 by_cases hw : w = 0
 ·obtain ⟨h5, h6⟩ := h3 hw
  rw [beq_iff_eq.2 hw, ift_true]
  by_cases hlm : l.length = m.length
  ·rw [show ((l.length : Int) != (m.length : Int)) = false by simp [hlm], ift_false]
   refine ord_j6 hl hm sl sm w ?_
   rw [h6, List.drop_of_length_le (by omega), List.drop_of_length_le (by omega), hw]; rfl
  ·rw [show ((l.length : Int) != (m.length : Int)) = true by simp; omega, ift_true]
   by_cases hlt : l.length < m.length
   ·rw [show decide ((l.length : Int) < (m.length : Int)) = true by simp; omega, ift_true]
    refine ord_j6 hl hm sl sm (-1) ?_
    rw [h6, List.drop_of_length_le (l := l) (by omega), cmpL_nil_l, if_neg (by rw [List.length_drop]; omega)]
   ·rw [show decide ((l.length : Int) < (m.length : Int)) = false by simp; omega, ift_false]
    refine ord_j6 hl hm sl sm 1 ?_
    rw [h6, List.drop_of_length_le (l := m) (by omega), cmpL_nil_r, if_neg (by rw [List.length_drop]; omega)]
 ·rw [beq_eq_false_iff_ne.2 hw, ift_false, ift_false]
  exact ord_j6 hl hm sl sm w (h4 hw)

theorem ord_l2 : ∀ (n f i : Nat) (w : Int), i + n = l.length → n < f → i ≤ m.length → (w = 0 → cmpL l m = cmpL (l.drop i) (m.drop i)) → (w ≠ 0 → cmpL l m = w) → law1_ValueKeysAreOrdered_l2 l m f w (i : Int) = some true := by
 have hll := sizeL_len l
 have hml := sizeL_len m
 intro n
 induction n with
 | zero =>
  intro f i w hi hf him h3 h4
  obtain ⟨f, rfl⟩ : ∃ q, f = q + 1 := ⟨f - 1, by omega⟩
  rw [law1_ValueKeysAreOrdered_l2, show decide ((i : Int) < (l.length : Int)) = false by simp; omega, ift_false]
  unfold law1_ValueKeysAreOrdered_j2
  rw [ift_false]
  exact ord_j4 hl hm sl sm w i (by omega) him (fun h => ⟨.inl (by omega), h3 h⟩) h4
 | succ n ih =>
  intro f i w hi hf him h3 h4
  obtain ⟨f, rfl⟩ : ∃ q, f = q + 1 := ⟨f - 1, by omega⟩
  have hil : i < l.length := by omega
  rw [law1_ValueKeysAreOrdered_l2, dec_lt hil, ift_true]
  by_cases hjm : i < m.length
  ·rw [dec_lt hjm, ift_true]
   unfold law1_ValueKeysAreOrdered_j2
   by_cases hw : w = 0
   ·rw [beq_iff_eq.2 hw, ift_true, at_nat hil, bnd_some', at_nat hjm, bnd_some']
    have z1 := sizeL_mem (List.getElem_mem hil)
    have z2 := sizeL_mem (List.getElem_mem hjm)
    have u1 := sl _ (List.getElem_mem hil)
    have u2 := sm _ (List.getElem_mem hjm)
    have e1 : l.drop i = l[i] :: l.drop (i + 1) := List.drop_eq_getElem_cons hil
    have e2 : m.drop i = m[i] :: m.drop (i + 1) := List.drop_eq_getElem_cons hjm
    have h5 := h3 hw
    rw [e1, e2] at h5
    simp only [cmpL] at h5
    obtain ⟨g, g1, g2⟩ := hash_of l[i] (by omega)
    obtain ⟨k, k1, k2⟩ := hash_of m[i] (by omega)
    rw [compare_eq (sizeV l[i]) _ _ BIG (Nat.le_refl _) (by omega) (sn_of u1) (sn_of u2) (by rw [big_val]; omega), bnd_some', g2, bnd_some', k2, bnd_some']
    have go : law1_ValueKeysAreOrdered_j3 (law1_ValueKeysAreOrdered_l2 l m f) (i : Int) (cmpV l[i] m[i]) false = some true := by
     unfold law1_ValueKeysAreOrdered_j3
     rw [ift_false, wrap_succ hil (by omega)]
     refine ih f (i + 1) _ (by omega) (by omega) (by omega) (fun h => ?_) (fun h => ?_)
     ·rw [h5, h, orr_zero]
     ·rw [h5]; unfold orr; rw [if_pos h]
    by_cases hz : cmpV l[i] m[i] = 0
    ·have hk := cmp_zero u1 u2 hz
     have hgk : g = k := by
      rw [hk, k1] at g1
      exact (Option.some.inj g1).symm
     rw [beq_iff_eq.2 hz, beq_iff_eq.2 hgk, beq_self_eq_true, Bool.not_true, ift_false]
     exact go
    ·rw [beq_eq_false_iff_ne.2 hz]
     cases hgk : (g == k)
     ·rw [beq_self_eq_true, Bool.not_true, ift_false]; exact go
     ·rw [show (!(false == true)) = true from rfl, ift_true]; exact go
   ·rw [beq_eq_false_iff_ne.2 hw, ift_false]
    exact ord_j4 hl hm sl sm w i (by omega) him (fun h => absurd h hw) h4
  ·rw [show decide ((i : Int) < (m.length : Int)) = false by simp; omega, ift_false]
   unfold law1_ValueKeysAreOrdered_j2
   rw [ift_false]
   exact ord_j4 hl hm sl sm w i (by omega) him (fun h => ⟨.inr (by omega), h3 h⟩) h4

end

theorem law_ordered (l m : List GValue) (hl : sizeL l < 5000000) (hm : sizeL m < 5000000) : law1_ValueKeysAreOrdered l m = some true := by
 have hll := sizeL_len l
 have hml := sizeL_len m
 unfold law1_ValueKeysAreOrdered law1_number
 rw [bnd_some', hash1, bnd_some', show ((9961030517181326514 : Int) == 0) = false from rfl, ift_false, grd_pos (by simp; omega), grd_pos (by simp; omega)]
 have h := search (f := fun k i => law1_ValueKeysAreOrdered_l1 l m k (i : Int)) (n := (([] ++ l) ++ m).length) (P := unS (([] ++ l) ++ m)) (A := fun _ => some true) (B := law1_ValueKeysAreOrdered_j1 l m)
  (fun k i hi => by
   have h1 : (([] ++ l) ++ m)[i] ∈ l ++ m := List.getElem_mem hi
   have h2 : sizeV ((([] ++ l) ++ m)[i]) < 10000000 := by
    rcases List.mem_append.1 h1 with h | h
    ·have := sizeL_mem h; omega
    ·have := sizeL_mem h; omega
   have h3 : (([] ++ l) ++ m).length < 1000000000 := by simp; omega
   show law1_ValueKeysAreOrdered_l1 l m (k + 1) (i : Int) = _
   rw [law1_ValueKeysAreOrdered_l1, dec_lt hi, bnd_some', ift_true, at_nat hi, bnd_some', rSound _ (by omega), bnd_some', unS_at hi, wrap_succ hi h3, ift_ite])
  (fun k => by
   show law1_ValueKeysAreOrdered_l1 l m (k + 1) (((([] ++ l) ++ m).length : Nat) : Int) = _
   rw [law1_ValueKeysAreOrdered_l1, decide_eq_false (Int.lt_irrefl _), bnd_some', ift_false])
  BIG 0 (Nat.zero_le _) (by rw [big_val]; simp; omega)
 have h' : law1_ValueKeysAreOrdered_l1 l m BIG 0 = _ := h
 rw [h']
 cases hf : first (unS (([] ++ l) ++ m)) 0 (([] ++ l) ++ m).length with
 | some i => rfl
 | none =>
  have hg := first_none.1 hf
  simp only [List.nil_append] at hg
  have hs : ∀ x ∈ l ++ m, soundB x = true := fun x hx => by
   obtain ⟨i, hi, rfl⟩ := List.getElem_of_mem hx
   have := hg i (Nat.zero_le _) hi
   rw [unS_at hi] at this
   simpa using this
  show law1_ValueKeysAreOrdered_j1 l m = some true
  unfold law1_ValueKeysAreOrdered_j1
  exact ord_l2 hl hm (fun x hx => hs x (by simp [hx])) (fun x hx => hs x (by simp [hx])) l.length BIG 0 0 (by omega) (by rw [big_val]; omega) (Nat.zero_le _) (fun _ => rfl) (fun h => absurd rfl h)

end Go.Proofs.YtdkmclmdemngfaaDoor
