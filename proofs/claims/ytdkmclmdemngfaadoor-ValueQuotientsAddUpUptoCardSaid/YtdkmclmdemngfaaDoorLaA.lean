/- The calendar, in plain integers. What needs no program: searches, bytes, sizes, words, digits. Sound of both sides. Values and types as they are read. The reference's integers: their digits. The reference's integers: differences, quotients, rounding. Numbers of 256 bits: what each operation of the program computes, as equations. Division of numbers of 256 bits, rounding, and values made of them. The reference's integers, in plain terms. The reference's integers: sums, products, quotients, values made of them. Values made of numbers on both sides; Round. Sums, differences, products, quotients and rests of numbers: the same on both sides. Types of both sides. Types of both sides. Types of both sides. Compute, Result and Not: the same on both sides. The law of Compute, Result and Not; the law of quotients. The laws of Compute and of quotients. -/
import Derived.Lib.ValidU
import Derived.Test.YtdkmclmdemngfaaDoorGeB
namespace Go.SX.Cal
open Go
set_option linter.unusedVariables false

theorem w64 {x : Int} (h1 : -9223372036854775808 ≤ x) (h2 : x ≤ 9223372036854775807) : IntKind.i64.wrap x = x := by
 simp only [IntKind.wrap, IntKind.bits, IntKind.signed]
 simp only [Bool.true_and, decide_eq_true_eq, ge_iff_le]
 split <;> omega

/-! ### years of an era -/

def S (y : Int) : Int := 365 * y + y / 4 - y / 100
def F (r : Int) : Int := r - r / 1460 + r / 36524
def leap (y : Int) : Prop := y % 4 = 0 ∧ (y % 100 ≠ 0 ∨ y % 400 = 0)

instance (y : Int) : Decidable (leap y) := by unfold leap; infer_instance

/-! ### days -/

def E (y : Int) : Int := y / 400 * 146097 + S (y % 400) - 719468

end Go.SX.Cal
namespace Go.SX.Cal
open Go Go.SX Go.Lib
set_option linter.unusedVariables false
set_option linter.unusedSimpArgs false

theorem ift_true {β : Type} (x y : Option β) : ift true x y = x := rfl
theorem ift_false {β : Type} (x y : Option β) : ift false x y = y := rfl
theorem ift_ite {β : Type} (b : Bool) (x y : Option β) : ift b x y = if b = true then x else y := by cases b <;> rfl
theorem big_val : BIG = 1152921504606846976 := rfl

def first (P : Nat → Bool) (i n : Nat) : Option Nat := (List.range' i (n - i)).find? P

theorem first_step {P : Nat → Bool} {i n : Nat} (h : i < n) : first P i n = if P i = true then some i else first P (i + 1) n := by
 unfold first
 rw [show n - i = (n - (i + 1)) + 1 by omega, List.range'_succ, List.find?_cons]
 cases hp : P i <;> simp [hp]

theorem first_end {P : Nat → Bool} {n : Nat} : first P n n = none := by simp [first]

theorem first_none {P : Nat → Bool} {i n : Nat} : first P i n = none ↔ ∀ j, i ≤ j → j < n → P j = false := by
 unfold first
 rw [List.find?_eq_none]
 constructor
 ·intro h j h1 h2
  have := h j (by rw [List.mem_range'_1]; omega)
  simpa using this
 ·intro h j hj
  rw [List.mem_range'_1] at hj
  have := h j (by omega) (by omega)
  simp [this]

theorem search {β : Type} {f : Nat → Nat → Option β} {n : Nat} {P : Nat → Bool} {A : Nat → Option β} {B : Option β} (hstep : ∀ k i, i < n → f (k + 1) i = if P i = true then A i else f k (i + 1)) (hend : ∀ k, f (k + 1) n = B) :
  ∀ k i, i ≤ n → n - i < k → f k i = (first P i n).elim B A := by
 intro k
 induction k with
 | zero => intro i _ h; omega
 | succ k ih =>
  intro i hi hk
  by_cases h : i = n
  ·subst h
   rw [hend, first_end]; rfl
  ·rw [hstep k i (by omega), first_step (by omega)]
   by_cases hp : P i = true
   ·simp [hp]
   ·simp only [hp, if_false]
    exact ih (i + 1) (by omega) (by omega)

def byt (s : ByteArray) (i : Nat) : Nat := (s.data.toList.getD i 0).toNat

theorem get_byt (s : ByteArray) (i : Nat) (h : i < s.size) : (s.get! i).toNat = byt s i := by
 unfold byt
 have h' : i < s.data.size := h
 have : s.get! i = s.data.toList.getD i 0 := by
  simp only [ByteArray.get!, List.getD, Array.getElem?_toList]
  rw [getElem!_pos s.data i h', Array.getElem?_eq_getElem h']; rfl
 rw [this]

theorem decode_lo (s : ByteArray) (i : Nat) (h : i < s.size) (hb : byt s i < 128) : Utf8.decode s i = (byt s i, 1) := by
 have e := get_byt s i h
 unfold Utf8.decode
 simp [e, hb]

theorem decode_hi (s : ByteArray) (i : Nat) (h : i < s.size) (hb : ¬ byt s i < 128) : 128 ≤ (Utf8.decode s i).1 := by
 have e := get_byt s i h
 unfold Utf8.decode
 simp only [Nat.add_zero, e, if_neg hb, Utf8.runeError]
 repeat' split
 all_goals simp_all
 all_goals omega

theorem size_zero (s : ByteArray) : (s.toList == (ByteArray.mk #[]).toList) = decide (s.size = 0) := by
 rw [ByteArray.toList_eq, ByteArray.toList_eq, Bool.eq_iff_iff]
 show (s.data.toList == []) = true ↔ decide (s.data.size = 0) = true
 rw [← Array.length_toList]
 cases s.data.toList <;> simp

mutual
def sizeT : GType → Nat
 | ⟨_, _, fs⟩ => sizeF fs + 1
def sizeF : List (FieldP GType) → Nat
 | [] => 0
 | f :: l => sizeFd f + sizeF l
def sizeFd : FieldP GType → Nat
 | ⟨_, n, _, t⟩ => n.size + sizeT t + 1
end

theorem sizeF_mem : ∀ {l : List GField} {x : GField}, x ∈ l → sizeFd x ≤ sizeF l
 | [], _, h => by cases h
 | y :: l, x, h => by
  simp only [sizeF]
  rcases List.mem_cons.1 h with rfl | h
  ·omega
  ·have := sizeF_mem h; omega

theorem sizeFd_eq : ∀ x : GField, sizeFd x = x.name.size + sizeT x.type + 1
 | ⟨_, _, _, _⟩ => by simp only [sizeFd]

theorem sizeT_eq : ∀ x : GType, sizeT x = sizeF x.fields + 1
 | ⟨_, _, _⟩ => by simp only [sizeT]

theorem sizeF_len : ∀ l : List GField, l.length ≤ sizeF l
 | [] => by simp [sizeF]
 | x :: l => by
  have := sizeF_len l
  have := sizeFd_eq x
  simp only [sizeF, List.length_cons]; omega

theorem wrap_succ {i n : Nat} (h : i < n) (hn : n < 1000000000) : IntKind.i64.wrap ((i : Int) + 1) = ((i + 1 : Nat) : Int) := by rw [w64 (by omega) (by omega)]; omega

theorem at_nat {α : Type} {xs : List α} {i : Nat} (h : i < xs.length) : at? xs (i : Int) = some xs[i] := by unfold at?; simp [h]

theorem dec_lt {i n : Nat} (h : i < n) : decide ((i : Int) < (n : Int)) = true := by simp [h]

mutual
def sizeV : GValue → Nat
 | ⟨_, _, _, s, it⟩ => s.size + sizeL it + 1
def sizeL : List GValue → Nat
 | [] => 0
 | x :: l => sizeV x + sizeL l
end

theorem sizeV_eq : ∀ v : GValue, sizeV v = v.s.size + sizeL v.items + 1
 | ⟨_, _, _, _, _⟩ => by simp only [sizeV]

theorem sizeL_mem : ∀ {l : List GValue} {x : GValue}, x ∈ l → sizeV x ≤ sizeL l
 | [], _, h => by cases h
 | y :: l, x, h => by
  simp only [sizeL]
  rcases List.mem_cons.1 h with rfl | h
  ·omega
  ·have := sizeL_mem h; omega

theorem sizeV_pos : ∀ v : GValue, 1 ≤ sizeV v
 | ⟨_, _, _, _, _⟩ => by simp only [sizeV]; omega

theorem sizeL_len : ∀ l : List GValue, l.length ≤ sizeL l
 | [] => by simp [sizeL]
 | x :: l => by
  have := sizeL_len l
  have := sizeV_pos x
  simp only [sizeL, List.length_cons]; omega

theorem ift_and (b x : Bool) : ift b (some x) (some false) = some (b && x) := by cases b <;> rfl
theorem bnd_some' {α β : Type} (a : α) (f : α → Option β) : bnd (some a) f = f a := rfl

theorem first_skip {P : Nat → Bool} {n : Nat} : ∀ (d i : Nat), i + d ≤ n → (∀ j, i ≤ j → j < i + d → P j = false) → first P i n = first P (i + d) n
 | 0, i, _, _ => rfl
 | d + 1, i, h, hP => by
  rw [first_step (by omega), hP i (by omega) (by omega)]
  simp only [Bool.false_eq_true, if_false]
  rw [first_skip d (i + 1) (by omega) (fun j h1 h2 => hP j (by omega) (by omega))]
  congr 1; omega

theorem decode_skip (s : ByteArray) (i : Nat) (h : i < s.size) (hb : ¬ byt s i < 128) :
  1 ≤ (Utf8.decode s i).2 ∧ i + (Utf8.decode s i).2 ≤ s.size ∧ ∀ j, i ≤ j → j < i + (Utf8.decode s i).2 → 128 ≤ byt s j := by
 have e := get_byt s i h
 have one : ∀ j, i ≤ j → j < i + 1 → 128 ≤ byt s j := fun j h1 h2 => by
  have : j = i := by omega
  subst this; omega
 have ct : ∀ k, (decide (i + k < s.size) && (s.get! (i + k)).toNat / 64 == 2) = true → i + k < s.size ∧ 128 ≤ byt s (i + k) := by
  intro k hk
  simp only [Bool.and_eq_true, decide_eq_true_eq, beq_iff_eq] at hk
  rw [get_byt s _ hk.1] at hk
  exact ⟨hk.1, by omega⟩
 unfold Utf8.decode
 simp only [Nat.add_zero, e, if_neg hb]
 split
 ·rename_i h1
  simp only [Bool.and_eq_true] at h1
  obtain ⟨l1, b1⟩ := ct 1 (by simpa using h1.2)
  split
  ·refine ⟨by simp, by simp only; omega, fun j h2 h3 => ?_⟩
   simp only at h3
   by_cases hj : j = i
   ·subst hj; omega
   ·have : j = i + 1 := by omega
    subst this; exact b1
  ·exact ⟨by simp, by simp only; omega, one⟩
 ·split
  ·rename_i h1
   simp only [Bool.and_eq_true] at h1
   obtain ⟨l1, b1⟩ := ct 1 (by simpa using h1.1.2)
   obtain ⟨l2, b2⟩ := ct 2 (by simpa using h1.2)
   split
   ·refine ⟨by simp, by simp only; omega, fun j h2 h3 => ?_⟩
    simp only at h3
    by_cases hj : j = i
    ·subst hj; omega
    ·by_cases hj : j = i + 1
     ·subst hj; exact b1
     ·have : j = i + 2 := by omega
      subst this; exact b2
   ·exact ⟨by simp, by simp only; omega, one⟩
  ·split
   ·rename_i h1
    simp only [Bool.and_eq_true] at h1
    obtain ⟨l1, b1⟩ := ct 1 (by simpa using h1.1.1.2)
    obtain ⟨l2, b2⟩ := ct 2 (by simpa using h1.1.2)
    obtain ⟨l3, b3⟩ := ct 3 (by simpa using h1.2)
    split
    ·refine ⟨by simp, by simp only; omega, fun j h2 h3 => ?_⟩
     simp only at h3
     by_cases hj : j = i
     ·subst hj; omega
     ·by_cases hj : j = i + 1
      ·subst hj; exact b1
      ·by_cases hj : j = i + 2
       ·subst hj; exact b2
       ·have : j = i + 3 := by omega
        subst this; exact b3
    ·exact ⟨by simp, by simp only; omega, one⟩
   ·exact ⟨by simp, by simp only; omega, one⟩

def ctl (s : ByteArray) (i : Nat) : Bool := decide (byt s i < 32) || byt s i == 127

theorem wu {x : Int} : IntKind.u64.wrap x = x % 18446744073709551616 := by
 simp only [IntKind.wrap, IntKind.bits, IntKind.signed]
 simp

structure W4 (w : GWide) : Prop where
 a0 : 0 ≤ w.size.1
 a1 : w.size.1 < 18446744073709551616
 b0 : 0 ≤ w.size.2.1
 b1 : w.size.2.1 < 18446744073709551616
 c0 : 0 ≤ w.size.2.2.1
 c1 : w.size.2.2.1 < 18446744073709551616
 d0 : 0 ≤ w.size.2.2.2
 d1 : w.size.2.2.2 < 18446744073709551616

def val (w : GWide) : Int := w.size.1 + w.size.2.1 * 18446744073709551616 + w.size.2.2.1 * 340282366920938463463374607431768211456 + w.size.2.2.2 * 6277101735386680763835789423207666416102355444464034512896

theorem mask32 {x : Int} (h0 : 0 ≤ x) (h1 : x < 18446744073709551616) : ((BitVec.ofInt (IntKind.u64).bits x &&& BitVec.ofInt (IntKind.u64).bits (4294967295 : Int)).toNat : Int) = x % 4294967296 := by
 have e : (BitVec.ofInt 64 x).toNat = x.toNat := by
  rw [BitVec.toNat_ofInt]
  have : x % ((2 ^ 64 : Nat) : Int) = x := by omega
  rw [this]
 have hand : (BitVec.ofInt 64 x &&& BitVec.ofInt 64 (4294967295 : Int)).toNat = x.toNat % 4294967296 := by
  rw [BitVec.toNat_and, e]
  have : (BitVec.ofInt 64 (4294967295 : Int)).toNat = 2 ^ 32 - 1 := by decide
  rw [this, Nat.and_two_pow_sub_one_eq_mod]
 show ((BitVec.ofInt 64 x &&& BitVec.ofInt 64 (4294967295 : Int)).toNat : Int) = _
 rw [hand]
 omega

theorem sh32 (x : Int) : x.fdiv (2 ^ (min (32 : Int).toNat (IntKind.u64).bits)) = x / 4294967296 := by
 have : (2 : Int) ^ (min (32 : Int).toNat (IntKind.u64).bits) = 4294967296 := by decide
 rw [this, Int.fdiv_eq_ediv_of_nonneg _ (by decide)]

theorem m64 {x : Int} (h0 : 0 ≤ x) (h1 : x < 18446744073709551616) : x % 18446744073709551616 = x := Int.emod_eq_of_lt h0 h1

theorem prod_bound {a b : Int} (a0 : 0 ≤ a) (a1 : a < 4294967296) (b0 : 0 ≤ b) (b1 : b < 4294967296) : 0 ≤ a * b ∧ a * b ≤ 18446744065119617025 := by
 refine ⟨Int.mul_nonneg a0 b0, ?_⟩
 have h1 : a * b ≤ 4294967295 * b := Int.mul_le_mul_of_nonneg_right (by omega) b0
 omega

theorem word_step {x n c : Int} (h0 : 0 ≤ x) (h1 : x < 18446744073709551616) (n0 : 0 ≤ n) (n1 : n < 18446744073709551616) (c0 : 0 ≤ c) (c1 : c < 18446744073709551616) :
  (x * n / 18446744073709551616 + (x * n % 18446744073709551616 + c) / 18446744073709551616) % 18446744073709551616 = (x * n + c) / 18446744073709551616 ∧ (x * n % 18446744073709551616 + c) % 18446744073709551616 = (x * n + c) % 18446744073709551616 ∧ 0 ≤ (x * n + c) / 18446744073709551616 ∧ (x * n + c) / 18446744073709551616 < 18446744073709551616 := by
 have hp : 0 ≤ x * n := Int.mul_nonneg h0 n0
 have hq : x * n ≤ 18446744073709551615 * n := Int.mul_le_mul_of_nonneg_right (by omega) n0
 have hq2 : (18446744073709551615 : Int) * n ≤ 18446744073709551615 * 18446744073709551615 := Int.mul_le_mul_of_nonneg_left (by omega) (by decide)
 have hb : x * n ≤ 340282366920938463426481119284349108225 := by
  refine Int.le_trans hq (Int.le_trans hq2 (by decide))
 generalize x * n = p at *
 omega

def p10 : Nat → Int
 | 0 => 1
 | k + 1 => p10 k * 10

theorem p10_pos : ∀ k, 1 ≤ p10 k
 | 0 => by decide
 | k + 1 => by have := p10_pos k; simp only [p10]; omega

def c3 (a b : Int) : Int := if a < b then -1 else if b < a then 1 else 0

theorem bool_ne (n m : Bool) (h : ¬ n = m) : (!(n == m)) = true ∧ (!m) = n := by revert h; cases n <;> cases m <;> simp

def dval : List Int → Int
 | [] => 0
 | d :: l => d + 10 * dval l

def digs (l : List Int) : Prop := ∀ d ∈ l, 0 ≤ d ∧ d ≤ 9

def top (l : List Int) : Prop := ∀ d, l.getLast? = some d → d ≠ 0

theorem dval_nonneg : ∀ {l : List Int}, digs l → 0 ≤ dval l
 | [], _ => by simp [dval]
 | d :: l, h => by
  have h1 := h d (by simp)
  have h2 := dval_nonneg (l := l) (fun x hx => h x (by simp [hx]))
  simp only [dval]; omega

theorem p10n : ∀ n, 0 < p10 n := fun n => by have := p10_pos n; omega

theorem dval_lt : ∀ {l : List Int}, digs l → dval l < p10 l.length
 | [], _ => by simp [dval, p10]
 | d :: l, h => by
  have h1 := h d (by simp)
  have h2 := dval_lt (l := l) (fun x hx => h x (by simp [hx]))
  simp only [dval, List.length_cons, p10]; omega

theorem dval_ge : ∀ {l : List Int}, digs l → top l → l ≠ [] → p10 (l.length - 1) ≤ dval l
 | [], _, _, h => absurd rfl h
 | [d], h, ht, _ => by
  have h1 := h d (by simp)
  have h2 := ht d (by simp)
  simp [dval, p10]; omega
 | d :: e :: l, h, ht, _ => by
  have h1 := h d (by simp)
  have h2 := dval_ge (l := e :: l) (fun x hx => h x (by simp [hx])) (fun x hx => ht x (by simpa using hx)) (by simp)
  simp only [List.length_cons] at h2 ⊢
  rw [show l.length + 1 + 1 - 1 = (l.length + 1 - 1) + 1 by omega]
  simp only [p10]
  rw [dval]
  omega

theorem p10_mono {m n : Nat} (h : m ≤ n) : p10 m ≤ p10 n := by
 induction n with
 | zero =>
   have : m = 0 := by omega
   subst this; exact Int.le_refl _
 | succ n ih =>
  by_cases e : m = n + 1
  ·subst e; exact Int.le_refl _
  ·have h1 := ih (by omega)
   have h2 := p10n n
   simp only [p10]; omega

end Go.SX.Cal
namespace Go.Proofs.YtdkmclmdemngfaaDoor
open Go Go.SX Go.SX.Cal Go.Lib
set_option linter.unusedVariables false
set_option linter.unusedSimpArgs false

theorem vtext_loop (s : ByteArray) : ∀ k i, i ≤ s.size → s.size - i < k → value_text_l1 s k i = some (first (ctl s) i s.size).isNone := by
 intro k
 induction k with
 | zero => intro i _ h; omega
 | succ k ih =>
  intro i hi hk
  rw [value_text_l1]
  by_cases h : i = s.size
  ·subst h
   rw [first_end]
   simp only [Nat.lt_irrefl, decide_false, ift_false, value_text_j3]
   rfl
  ·have hlt : i < s.size := by omega
   simp only [hlt, decide_true, ift_true, value_text_j2, ift_ite]
   by_cases hb : byt s i < 128
   ·rw [decode_lo s i hlt hb, first_step hlt]
    by_cases h1 : byt s i < 32
    ·have : ctl s i = true := by simp [ctl, h1]
     simp [this, show ((byt s i : Nat) : Int) < 32 by omega]
    ·have e1 : ¬ ((byt s i : Nat) : Int) < 32 := by omega
     by_cases h2 : byt s i = 127
     ·have : ctl s i = true := by simp [ctl, h2]
      simp [this, h2]
     ·have : ctl s i = false := by simp [ctl, h1, h2]
      have e2 : ¬ ((byt s i : Nat) : Int) = 127 := by omega
      simp only [this, Int.ofNat_eq_natCast, e1, decide_false, Bool.false_eq_true, if_false, beq_iff_eq, e2]
      exact ih (i + 1) (by omega) (by omega)
   ·have h1 := decode_hi s i hlt hb
    obtain ⟨h2, h3, h4⟩ := decode_skip s i hlt hb
    have e1 : ¬ (((Utf8.decode s i).1 : Nat) : Int) < 32 := by omega
    have e2 : ¬ (((Utf8.decode s i).1 : Nat) : Int) = 127 := by omega
    simp only [Int.ofNat_eq_natCast, e1, decide_false, Bool.false_eq_true, if_false, beq_iff_eq, e2]
    rw [ih _ h3 (by omega), first_skip _ i h3 (fun j a b => by
     have := h4 j a b
     simp only [ctl, Bool.or_eq_false_iff, decide_eq_false_iff_not, beq_eq_false_iff_ne]
     omega)]
    simp

def textOk (s : ByteArray) : Bool := decide (s.size ≤ 256) && (validD s.data.toList && (first (ctl s) 0 s.size).isNone)

theorem validS (s : ByteArray) (hs : s.size < 1000000000) : utf8_ValidString s = some (validD s.data.toList) := by
 unfold utf8_ValidString grd
 rw [if_pos (by omega)]

theorem vText (s : ByteArray) (hs : s.size < 1000000000) : value_text s = some (textOk s) := by
 unfold value_text value_text_j1 textOk
 rw [validS s hs, vtext_loop s BIG 0 (by omega) (by rw [big_val]; omega)]
 by_cases h : s.size ≤ 256
 ·have : ¬ (256 : Int) < (s.size : Int) := by omega
  simp only [this, h, decide_false, decide_true, ift_false, bnd_some']
  cases validD s.data.toList <;> rfl
 ·have : (256 : Int) < (s.size : Int) := by omega
  simp only [this, h, decide_false, decide_true, ift_true]
  rfl

theorem vWithin (a b c : Int) : value_within a b c = some (decide (b ≤ a) && decide (a ≤ c)) := by
 unfold value_within value_within_j1; exact ift_and _ _
theorem rWithin (a b c : Int) : ref1_within a b c = some (decide (b ≤ a) && decide (a ≤ c)) := by
 unfold ref1_within ref1_within_j1; exact ift_and _ _

def plainOk (v : GValue) : Bool :=
 let bare := v.n == 0 && v.scale == 0
 let noS := decide (v.s.size = 0)
 let noI := ((v.items.length : Int) == 0)
 if v.kind = 0 then bare && (noS && noI)
 else if v.kind = 1 then (decide (0 ≤ v.n) && decide (v.n ≤ 1)) && (v.scale == 0 && (noS && noI))
 else if v.kind = 2 then (decide (-999999999999999999 ≤ v.n) && decide (v.n ≤ 999999999999999999)) && (v.scale == 0 && (noS && noI))
 else if v.kind = 3 then (decide (-999999999999999999 ≤ v.n) && decide (v.n ≤ 999999999999999999)) && ((decide (0 ≤ v.scale) && decide (v.scale ≤ 12)) && (noS && noI))
 else if v.kind = 4 then bare && (textOk v.s && noI)
 else if v.kind = 5 then (decide (-62135596800 ≤ v.n) && decide (v.n ≤ 253402300799)) && (v.scale == 0 && (noS && noI))
 else if v.kind = 6 then bare && (noS && decide ((v.items.length : Int) ≤ 64))
 else if v.kind = 7 then bare && (noS && decide ((0 : Int) < (v.items.length : Int)))
 else false

theorem vPlain (v : GValue) (hs : v.s.size < 1000000000) : value_plain v = some (plainOk v) := by
 have j : ∀ x, value_plain_j1 v x = some (if v.kind = 0 then x && (decide (v.s.size = 0) && ((v.items.length : Int) == 0))
   else if v.kind = 1 then (decide (0 ≤ v.n) && decide (v.n ≤ 1)) && (v.scale == 0 && (decide (v.s.size = 0) && ((v.items.length : Int) == 0)))
   else if v.kind = 2 then (decide (-999999999999999999 ≤ v.n) && decide (v.n ≤ 999999999999999999)) && (v.scale == 0 && (decide (v.s.size = 0) && ((v.items.length : Int) == 0)))
   else if v.kind = 3 then (decide (-999999999999999999 ≤ v.n) && decide (v.n ≤ 999999999999999999)) && ((decide (0 ≤ v.scale) && decide (v.scale ≤ 12)) && (decide (v.s.size = 0) && ((v.items.length : Int) == 0)))
   else if v.kind = 4 then x && (textOk v.s && ((v.items.length : Int) == 0))
   else if v.kind = 5 then (decide (-62135596800 ≤ v.n) && decide (v.n ≤ 253402300799)) && (v.scale == 0 && (decide (v.s.size = 0) && ((v.items.length : Int) == 0)))
   else if v.kind = 6 then x && (decide (v.s.size = 0) && decide ((v.items.length : Int) ≤ 64))
   else if v.kind = 7 then x && (decide (v.s.size = 0) && decide ((0 : Int) < (v.items.length : Int)))
   else false) := by
  intro x
  unfold value_plain_j1 value_plain_j2 value_plain_j3 value_plain_j4 value_plain_j5 value_plain_j6 value_plain_j7 value_plain_j8 value_plain_j9
  simp only [vWithin, vText v.s hs, bnd_some', ift_and, size_zero]
  simp only [ift_ite, beq_iff_eq]
  repeat' split
  all_goals (first | rfl | simp_all)
 unfold value_plain
 rw [j, j]
 unfold plainOk
 cases v.n == 0
 ·simp only [ift_false, Bool.false_and]
 ·simp only [ift_true, Bool.true_and]

def soundL (f : GValue → Int → Bool × Int) : List GValue → Int → Bool × Int
 | [], z => (true, z)
 | v :: l, z => if (f v z).1 = true then soundL f l (f v z).2 else (false, (f v z).2)

def cnt (v : GValue) (z : Int) : Int := if v.kind = 0 then z else z + 1

def soundD : Nat → GValue → Int → Bool × Int
 | 0, v, z => (false, cnt v z)
 | d + 1, v, z => if 256 < cnt v z ∨ plainOk v = false then (false, cnt v z) else soundL (soundD d) v.items (cnt v z)

def soundB (v : GValue) : Bool := (soundD 4 v 0).1

theorem soundL_le {f : GValue → Int → Bool × Int} : ∀ {l : List GValue} {z : Int}, (∀ v ∈ l, ∀ z, 0 ≤ z → z ≤ 256 → 0 ≤ (f v z).2 ∧ (f v z).2 ≤ 257 ∧ ((f v z).1 = true → (f v z).2 ≤ 256)) → 0 ≤ z → z ≤ 256 →
  0 ≤ (soundL f l z).2 ∧ (soundL f l z).2 ≤ 257 ∧ ((soundL f l z).1 = true → (soundL f l z).2 ≤ 256)
 | [], z, _, h0, h1 => by simp only [soundL]; omega
 | v :: l, z, hf, h0, h1 => by
  obtain ⟨a, b, c⟩ := hf v (by simp) z h0 h1
  simp only [soundL]
  split
  ·rename_i h
   exact soundL_le (fun x hx => hf x (by simp [hx])) a (c h)
  ·exact ⟨a, b, fun h => by cases h⟩

theorem soundD_le : ∀ (d : Nat) (v : GValue) (z : Int), 0 ≤ z → z ≤ 256 → 0 ≤ (soundD d v z).2 ∧ (soundD d v z).2 ≤ 257 ∧ ((soundD d v z).1 = true → (soundD d v z).2 ≤ 256)
 | 0, v, z, h0, h1 => by
  have hc : z ≤ cnt v z ∧ cnt v z ≤ z + 1 := by unfold cnt; split <;> omega
  simp only [soundD]
  exact ⟨by omega, by omega, fun h => by cases h⟩
 | d + 1, v, z, h0, h1 => by
  have hc : z ≤ cnt v z ∧ cnt v z ≤ z + 1 := by unfold cnt; split <;> omega
  simp only [soundD]
  split
  ·exact ⟨by omega, by omega, fun h => by cases h⟩
  ·rename_i h
   have : ¬ 256 < cnt v z := fun e => h (.inl e)
   exact soundL_le (fun x _ => soundD_le d x) (by omega) (by omega)

theorem cnt_wrap (v : GValue) (z : Int) (h0 : 0 ≤ z) (h1 : z ≤ 256) {β : Type} (f : Int → Option β) : ift (v.kind != (0 : Int)) (f (IntKind.i64.wrap (z + 1))) (f z) = f (cnt v z) := by
 rw [w64 (by omega) (by omega)]
 unfold cnt
 by_cases h : v.kind = 0
 ·simp [h, ift_ite]
 ·simp [h, ift_ite]

theorem vsound_loop {d : Nat} (l : Int) (q : GValue → Int → Int → Option (Bool × Int)) (xs : List GValue) (hl : xs.length < 1000000000)
  (hq : ∀ v ∈ xs, ∀ z, 0 ≤ z → z ≤ 256 → q v l z = some (!(soundD d v z).1, (soundD d v z).2)) : ∀ (k i : Nat) (z : Int), i ≤ xs.length → xs.length - i < k → 0 ≤ z → z ≤ 256 →
  ∃ r : Int, slices_IndexFunc_api_Value_api_Value_of_value_sound_1_l1 q xs l k z (i : Int) = some (r, (soundL (soundD d) (xs.drop i) z).2) ∧ decide (0 ≤ r) = !(soundL (soundD d) (xs.drop i) z).1 := by
 intro k
 induction k with
 | zero => intro i z _ h; omega
 | succ k ih =>
  intro i z hi hk h0 h1
  rw [slices_IndexFunc_api_Value_api_Value_of_value_sound_1_l1]
  by_cases h : i = xs.length
  ·subst h
   simp only [Int.lt_irrefl, decide_false, ift_false, List.drop_length, soundL, slices_IndexFunc_api_Value_api_Value_of_value_sound_1_j1]
   exact ⟨-1, rfl, rfl⟩
  ·have hlt : i < xs.length := by omega
   have hm : xs[i] ∈ xs := List.getElem_mem hlt
   simp only [dec_lt hlt, ift_true, at_nat hlt, bnd_some', hq _ hm z h0 h1]
   rw [List.drop_eq_getElem_cons hlt]
   simp only [soundL]
   obtain ⟨a, b, c⟩ := soundD_le d xs[i] z h0 h1
   cases hs : (soundD d xs[i] z).1 with
   | false =>
    simp only [Bool.not_false, ift_true, Bool.false_eq_true, if_false]
    exact ⟨_, rfl, by simp⟩
   | true =>
    simp only [Bool.not_true, ift_false, if_true]
    rw [wrap_succ hlt hl]
    exact ih (i + 1) _ (by omega) (by omega) a (c hs)

theorem vsound_eq : ∀ (d k : Nat) (v : GValue) (z : Int), d ≤ 4 → 4 * d + 4 ≤ k → sizeV v < 1000000000 → 0 ≤ z → z ≤ 256 → value_sound k v (5 - d : Int) z = some (soundD d v z) := by
 intro d
 induction d with
 | zero =>
  intro k v z _ hk hs h0 h1
  obtain ⟨k, rfl⟩ : ∃ q, k = q + 1 := ⟨k - 1, by omega⟩
  rw [value_sound, cnt_wrap v z h0 h1]
  unfold value_sound_j1 value_sound_j2
  simp [soundD, ift_true]
 | succ d ih =>
  intro k v z hd hk hs h0 h1
  obtain ⟨k, rfl⟩ : ∃ q, k = q + 4 := ⟨k - 4, by omega⟩
  have hsz := sizeV_eq v
  have hlen := sizeL_len v.items
  rw [value_sound, cnt_wrap v z h0 h1]
  unfold value_sound_j1 value_sound_j2
  rw [vPlain v (by omega)]
  have e4 : ¬ (4 : Int) < 5 - ((d + 1 : Nat) : Int) := by omega
  have hc : z ≤ cnt v z ∧ cnt v z ≤ z + 1 := by unfold cnt; split <;> omega
  simp only [e4, decide_false, ift_false, soundD, bnd_some']
  by_cases h2 : (256 : Int) < cnt v z
  ·simp [h2, ift_true]
  ·cases hp : plainOk v with
   | false => simp [h2, ift_true, ift_false]
   | true =>
    simp only [h2, decide_false, ift_false, Bool.not_true, false_or, Bool.true_eq_false, if_false]
    have := vsound_loop (d := d) (5 - ((d + 1 : Nat) : Int)) (value_sound_1_s (k + 1)) v.items (by omega) (by
     intro x hx z h0 h1
     have := sizeL_mem hx
     rw [value_sound_1_s, w64 (by omega) (by omega), show (5 - ((d + 1 : Nat) : Int) + 1) = 5 - (d : Int) by omega, ih k x z (by omega) (by omega) (by omega) h0 h1]
     rfl) BIG 0 (cnt v z) (by omega) (by rw [big_val]; omega) (by omega) (by omega)
    obtain ⟨r, e1, e2⟩ := this
    rw [show ((0 : Nat) : Int) = (0 : Int) from rfl] at e1
    rw [slices_ContainsFunc_api_Value_api_Value_of_value_sound_1, slices_IndexFunc_api_Value_api_Value_of_value_sound_1, e1]
    simp only [bnd_some', e2, List.drop_zero, Bool.not_not]

theorem vSound (v : GValue) (hs : sizeV v < 1000000000) : value_Sound v = some (soundB v) := by
 unfold value_Sound soundB
 have := vsound_eq 4 BIG v 0 (by omega) (by rw [big_val]; omega) hs (by omega) (by omega)
 rw [show (5 - ((4 : Nat) : Int)) = (1 : Int) from rfl] at this
 rw [this]; rfl

end Go.Proofs.YtdkmclmdemngfaaDoor
namespace Go.Proofs.YtdkmclmdemngfaaDoor
open Go Go.SX Go.SX.Cal
set_option linter.unusedVariables false

end Go.Proofs.YtdkmclmdemngfaaDoor
namespace Go.Proofs.YtdkmclmdemngfaaDoor
open Go Go.SX Go.SX.Cal Go.Lib
set_option linter.unusedVariables false
set_option linter.unusedSimpArgs false

end Go.Proofs.YtdkmclmdemngfaaDoor
namespace Go.Proofs.YtdkmclmdemngfaaDoor
open Go Go.SX Go.SX.Cal Go.Lib
set_option linter.unusedVariables false
set_option linter.unusedSimpArgs false

theorem grd_pos {β : Type} {p : Prop} [Decidable p] {x : Option β} (h : p) : grd p x = x := if_pos h

end Go.Proofs.YtdkmclmdemngfaaDoor
namespace Go.Proofs.YtdkmclmdemngfaaDoor
open Go Go.SX Go.SX.Cal
set_option linter.unusedVariables false
set_option linter.unusedSimpArgs false

theorem mul_lin (p11 p10 p01 p00 : Int) (h11 : 0 ≤ p11 ∧ p11 ≤ 18446744065119617025) (h10 : 0 ≤ p10 ∧ p10 ≤ 18446744065119617025) (h01 : 0 ≤ p01 ∧ p01 ≤ 18446744065119617025) (h00 : 0 ≤ p00 ∧ p00 ≤ 18446744065119617025) :
  p11 + (p10 + p00 / 4294967296) / 4294967296 + ((p10 + p00 / 4294967296) % 4294967296 + p01) / 4294967296 = (p11 * 18446744073709551616 + (p10 + p01) * 4294967296 + p00) / 18446744073709551616 := by
 omega

theorem mul_eq {x y : Int} (h0 : 0 ≤ x) (h1 : x < 18446744073709551616) (k0 : 0 ≤ y) (k1 : y < 18446744073709551616) : math_bits_Mul64 x y = some (x * y / 18446744073709551616, x * y % 18446744073709551616) := by
 unfold math_bits_Mul64
 simp only [bnd_eq, sh32]
 rw [mask32 h0 h1, mask32 k0 k1]
 simp only [wu]
 have hx0 : 0 ≤ x % 4294967296 ∧ x % 4294967296 < 4294967296 := by omega
 have hx1 : 0 ≤ x / 4294967296 ∧ x / 4294967296 < 4294967296 := by omega
 have hy0 : 0 ≤ y % 4294967296 ∧ y % 4294967296 < 4294967296 := by omega
 have hy1 : 0 ≤ y / 4294967296 ∧ y / 4294967296 < 4294967296 := by omega
 have ex : x = x / 4294967296 * 4294967296 + x % 4294967296 := by omega
 have ey : y = y / 4294967296 * 4294967296 + y % 4294967296 := by omega
 have exy : x * y = (x / 4294967296 * (y / 4294967296)) * 18446744073709551616 + (x / 4294967296 * (y % 4294967296) + x % 4294967296 * (y / 4294967296)) * 4294967296 + x % 4294967296 * (y % 4294967296) := by
  generalize x / 4294967296 = x1 at *
  generalize x % 4294967296 = x0 at *
  generalize y / 4294967296 = y1 at *
  generalize y % 4294967296 = y0 at *
  rw [ex, ey]
  simp only [Int.add_mul, Int.mul_add]
  have e1 : x1 * 4294967296 * (y1 * 4294967296) = x1 * y1 * 18446744073709551616 := by
   rw [Int.mul_assoc, Int.mul_left_comm 4294967296 y1, ← Int.mul_assoc]; rfl
  have e2 : x1 * 4294967296 * y0 = x1 * y0 * 4294967296 := by rw [Int.mul_assoc, Int.mul_comm 4294967296, ← Int.mul_assoc]
  have e3 : x0 * (y1 * 4294967296) = x0 * y1 * 4294967296 := by rw [Int.mul_assoc]
  rw [e1, e2, e3]; omega
 have b11 := Go.SX.Cal.prod_bound hx1.1 hx1.2 hy1.1 hy1.2
 have b10 := Go.SX.Cal.prod_bound hx1.1 hx1.2 hy0.1 hy0.2
 have b01 := Go.SX.Cal.prod_bound hx0.1 hx0.2 hy1.1 hy1.2
 have b00 := Go.SX.Cal.prod_bound hx0.1 hx0.2 hy0.1 hy0.2
 rw [m64 (x := x % 4294967296) (by omega) (by omega), m64 (x := y % 4294967296) (by omega) (by omega)]
 have L := mul_lin _ _ _ _ b11 b10 b01 b00
 rw [exy]
 generalize x / 4294967296 * (y / 4294967296) = p11 at *
 generalize x / 4294967296 * (y % 4294967296) = p10 at *
 generalize x % 4294967296 * (y / 4294967296) = p01 at *
 generalize x % 4294967296 * (y % 4294967296) = p00 at *
 rw [m64 (x := p10) (by omega) (by omega), m64 (x := p00) (by omega) (by omega), m64 (x := p01) (by omega) (by omega), m64 (x := p11) (by omega) (by omega), m64 (x := p10 + p00 / 4294967296) (by omega) (by omega)]
 rw [mask32 (x := p10 + p00 / 4294967296) (by omega) (by omega)]
 rw [m64 (x := (p10 + p00 / 4294967296) % 4294967296) (by omega) (by omega), m64 (x := (p10 + p00 / 4294967296) % 4294967296 + p01) (by omega) (by omega)]
 rw [m64 (x := p11 + (p10 + p00 / 4294967296) / 4294967296) (by omega) (by omega), m64 (x := p11 + (p10 + p00 / 4294967296) / 4294967296 + ((p10 + p00 / 4294967296) % 4294967296 + p01) / 4294967296) (by omega) (by omega), L]

theorem times_eq {w : GWide} {n : Int} (h : W4 w) (n0 : 0 ≤ n) (n1 : n < 18446744073709551616) (hv : val w * n < 115792089237316195423570985008687907853269984665640564039457584007913129639936) :
  ∃ w', value_wide_times w n = some w' ∧ W4 w' ∧ val w' = val w * n ∧ w'.neg = w.neg := by
 obtain ⟨neg, x0, x1, x2, x3⟩ := w
 obtain ⟨a0, a1, b0, b1, c0, c1, d0, d1⟩ := h
 simp only at a0 a1 b0 b1 c0 c1 d0 d1
 unfold value_wide_times
 simp only
 rw [mul_eq a0 a1 n0 n1, mul_eq b0 b1 n0 n1, mul_eq c0 c1 n0 n1, mul_eq d0 d1 n0 n1]
 simp only [bnd_eq, wu]
 have hval : val ⟨neg, x0, x1, x2, x3⟩ * n = x0 * n + x1 * n * 18446744073709551616 + x2 * n * 340282366920938463463374607431768211456 + x3 * n * 6277101735386680763835789423207666416102355444464034512896 := by
  unfold val
  simp only [Int.add_mul]
  rw [Int.mul_right_comm x1, Int.mul_right_comm x2, Int.mul_right_comm x3]
 rw [hval] at hv ⊢
 obtain ⟨p1, p2, p3, p4⟩ := word_step (c := 0) a0 a1 n0 n1 (by decide) (by decide)
 simp only [Int.add_zero] at p1 p2 p3 p4 ⊢
 rw [p1, p2]
 generalize hc1 : x0 * n / 18446744073709551616 = k1 at *
 obtain ⟨q1, q2, q3, q4⟩ := word_step (c := k1) b0 b1 n0 n1 p3 p4
 rw [q1, q2]
 generalize hc2 : (x1 * n + k1) / 18446744073709551616 = k2 at *
 obtain ⟨r1, r2, r3, r4⟩ := word_step (c := k2) c0 c1 n0 n1 q3 q4
 rw [r1, r2]
 generalize hc3 : (x2 * n + k2) / 18446744073709551616 = k3 at *
 obtain ⟨s1, s2, s3, s4⟩ := word_step (c := k3) d0 d1 n0 n1 r3 r4
 rw [s2]
 have e0 := Int.mul_nonneg a0 n0
 have e1 := Int.mul_nonneg b0 n0
 have e2 := Int.mul_nonneg c0 n0
 have e3 := Int.mul_nonneg d0 n0
 clear p1 p2 q1 q2 r1 r2 s1 s2
 generalize x0 * n = P0 at *
 generalize x1 * n = P1 at *
 generalize x2 * n = P2 at *
 generalize x3 * n = P3 at *
 rw [grd_pos (by omega), grd_pos (by omega), grd_pos (by omega), grd_pos (by omega)]
 refine ⟨_, rfl, ⟨by simp only; omega, by simp only; omega, by simp only; omega, by simp only; omega, by simp only; omega, by simp only; omega, by simp only; omega, by simp only; omega⟩, ?_, rfl⟩
 simp only [val]
 have f0 : P0 = k1 * 18446744073709551616 + P0 % 18446744073709551616 := by omega
 have f1 : P1 + k1 = k2 * 18446744073709551616 + (P1 + k1) % 18446744073709551616 := by omega
 have f2 : P2 + k2 = k3 * 18446744073709551616 + (P2 + k2) % 18446744073709551616 := by omega
 have f3 : P3 + k3 = (P3 + k3) / 18446744073709551616 * 18446744073709551616 + (P3 + k3) % 18446744073709551616 := by omega
 have z : (P3 + k3) / 18446744073709551616 = 0 := by
  generalize P0 % 18446744073709551616 = m0 at *
  generalize (P1 + k1) % 18446744073709551616 = m1 at *
  generalize (P2 + k2) % 18446744073709551616 = m2 at *
  omega
 rw [z] at f3
 generalize P0 % 18446744073709551616 = m0 at *
 generalize (P1 + k1) % 18446744073709551616 = m1 at *
 generalize (P2 + k2) % 18446744073709551616 = m2 at *
 generalize (P3 + k3) % 18446744073709551616 = m3 at *
 omega

theorem csize_eq {a b : GWide} (ha : W4 a) (hb : W4 b) : value_compareSize a b = some (c3 (val a) (val b)) := by
 obtain ⟨n, x0, x1, x2, x3⟩ := a
 obtain ⟨m, y0, y1, y2, y3⟩ := b
 obtain ⟨a0, a1, b0, b1, c0, c1, d0, d1⟩ := ha
 obtain ⟨e0, e1, f0, f1, g0, g1, h0, h1⟩ := hb
 simp only at *
 unfold value_compareSize
 simp only [ift_ite, decide_eq_true_eq]
 unfold c3 val
 simp only
 by_cases q3 : x3 < y3
 ·rw [if_pos q3, if_pos (by omega)]
 rw [if_neg q3]
 by_cases q3' : y3 < x3
 ·rw [if_pos q3', if_neg (by omega), if_pos (by omega)]
 rw [if_neg q3']
 by_cases q2 : x2 < y2
 ·rw [if_pos q2, if_pos (by omega)]
 rw [if_neg q2]
 by_cases q2' : y2 < x2
 ·rw [if_pos q2', if_neg (by omega), if_pos (by omega)]
 rw [if_neg q2']
 by_cases q1 : x1 < y1
 ·rw [if_pos q1, if_pos (by omega)]
 rw [if_neg q1]
 by_cases q1' : y1 < x1
 ·rw [if_pos q1', if_neg (by omega), if_pos (by omega)]
 rw [if_neg q1']
 by_cases q0 : x0 < y0
 ·rw [if_pos q0, if_pos (by omega)]
 rw [if_neg q0]
 by_cases q0' : y0 < x0
 ·rw [if_pos q0', if_neg (by omega), if_pos (by omega)]
 rw [if_neg q0', if_neg (by omega), if_neg (by omega)]

def wd (A j : Nat) : Nat := A / 2 ^ (64 * j) % 2 ^ 64

def mkW (s : Bool) (A : Nat) : GWide := ⟨s, (wd A 0 : Int), (wd A 1 : Int), (wd A 2 : Int), (wd A 3 : Int)⟩

theorem eta_w (w : GWide) : GWide.mk w.neg (w.size.1, w.size.2.1, w.size.2.2.1, w.size.2.2.2) = w := rfl

theorem wd0 (A : Nat) : wd A 0 = A % 18446744073709551616 := by unfold wd; simp
theorem wd1 (A : Nat) : wd A 1 = A / 18446744073709551616 % 18446744073709551616 := by unfold wd; simp
theorem wd2 (A : Nat) : wd A 2 = A / 340282366920938463463374607431768211456 % 18446744073709551616 := by unfold wd; simp
theorem wd3 (A : Nat) : wd A 3 = A / 6277101735386680763835789423207666416102355444464034512896 % 18446744073709551616 := by unfold wd; simp

theorem mkW_w4 (s : Bool) (A : Nat) : W4 (mkW s A) := by
 have h : ∀ j, (0 : Int) ≤ (wd A j : Int) ∧ (wd A j : Int) < 18446744073709551616 := fun j => by
  have : wd A j < 2 ^ 64 := Nat.mod_lt _ (by decide)
  omega
 exact ⟨(h 0).1, (h 0).2, (h 1).1, (h 1).2, (h 2).1, (h 2).2, (h 3).1, (h 3).2⟩

theorem val_mkW (s : Bool) (A : Nat) (h : A < 115792089237316195423570985008687907853269984665640564039457584007913129639936) : val (mkW s A) = A := by
 unfold val mkW
 simp only [wd0, wd1, wd2, wd3]
 omega

theorem w4_mk {w : GWide} (h : W4 w) : w = mkW w.neg (val w).toNat := by
 obtain ⟨neg, x0, x1, x2, x3⟩ := w
 obtain ⟨a0, a1, b0, b1, c0, c1, d0, d1⟩ := h
 simp only at a0 a1 b0 b1 c0 c1 d0 d1
 unfold mkW val
 simp only [wd0, wd1, wd2, wd3, GWide.mk.injEq, Prod.mk.injEq, true_and]
 refine ⟨?_, ?_, ?_, ?_⟩ <;> omega

theorem w4_eq {w : GWide} {s : Bool} {A : Nat} (h : W4 w) (hs : w.neg = s) (hv : val w = A) : w = mkW s A := by
 rw [w4_mk h, hs, hv]; rfl

theorem times_mk (s : Bool) (A m : Nat) (hm : m < 18446744073709551616) (h : A * m < 115792089237316195423570985008687907853269984665640564039457584007913129639936) (hA : A < 115792089237316195423570985008687907853269984665640564039457584007913129639936) : value_wide_times (mkW s A) (m : Int) = some (mkW s (A * m)) := by
 have hv := val_mkW s A hA
 obtain ⟨w, h1, h2, h3, h4⟩ := times_eq (n := (m : Int)) (mkW_w4 s A) (by omega) (by omega) (by rw [hv]; omega)
 rw [h1, w4_eq h2 (s := s) (A := A * m) h4 (by rw [h3, hv]; push_cast; rfl)]

theorem csize_mk (s t : Bool) (A B : Nat) (hA : A < 115792089237316195423570985008687907853269984665640564039457584007913129639936) (hB : B < 115792089237316195423570985008687907853269984665640564039457584007913129639936) : value_compareSize (mkW s A) (mkW t B) = some (c3 (A : Int) (B : Int)) := by
 rw [csize_eq (mkW_w4 s A) (mkW_w4 t B), val_mkW s A hA, val_mkW t B hB]

theorem whole_mk (n : Int) (h0 : -9223372036854775808 ≤ n) (h1 : n ≤ 9223372036854775807) : value_whole n = some (mkW (decide (n < 0)) n.natAbs) := by
 unfold value_whole
 by_cases h : n < 0
 ·rw [show decide (n < 0) = true by simpa using h, ift_true]
  congr 1
  unfold mkW
  simp only [wd0, wd1, wd2, wd3, GWide.mk.injEq, Prod.mk.injEq, true_and, wu]
  refine ⟨?_, ?_, ?_, ?_⟩ <;> omega
 ·rw [show decide (n < 0) = false by simpa using h, ift_false]
  congr 1
  unfold mkW
  simp only [wd0, wd1, wd2, wd3, GWide.mk.injEq, Prod.mk.injEq, true_and, wu]
  refine ⟨?_, ?_, ?_, ?_⟩ <;> omega

theorem shifted_l (s : Bool) (d : Nat) (hd : d ≤ 1000) : ∀ (j k A i : Nat), i + j = d → j < k → A * 10 ^ j < 115792089237316195423570985008687907853269984665640564039457584007913129639936 →
  value_wide_shifted_l1 (d : Int) k s (wd A 0) (wd A 1) (wd A 2) (wd A 3) (i : Int) = some (mkW s (A * 10 ^ j)) := by
 intro j
 induction j with
 | zero =>
  intro k A i hi hk hA
  obtain ⟨k, rfl⟩ : ∃ q, k = q + 1 := ⟨k - 1, by omega⟩
  rw [value_wide_shifted_l1, show decide ((i : Int) < (d : Int)) = false by simp; omega, ift_false, Nat.pow_zero, Nat.mul_one]
  rfl
 | succ j ih =>
  intro k A i hi hk hA
  obtain ⟨k, rfl⟩ : ∃ q, k = q + 1 := ⟨k - 1, by omega⟩
  have e : A * 10 ^ (j + 1) = A * 10 * 10 ^ j := by rw [Nat.pow_succ, Nat.mul_comm (10 ^ j) 10, Nat.mul_assoc]
  have hp : 0 < 10 ^ j := Nat.pow_pos (by decide)
  have hle : A * 10 * 1 ≤ A * 10 * 10 ^ j := Nat.mul_le_mul_left _ hp
  rw [e] at hA ⊢
  have ht := times_mk s A 10 (by decide) (by omega) (by omega)
  rw [value_wide_shifted_l1, show decide ((i : Int) < (d : Int)) = true by simp; omega, ift_true]
  have ht' : value_wide_times (GWide.mk s ((wd A 0 : Int), (wd A 1 : Int), (wd A 2 : Int), (wd A 3 : Int))) (10 : Int) = some (mkW s (A * 10)) := ht
  rw [ht', bnd_some', w64 (by omega) (by omega), show (i : Int) + 1 = ((i + 1 : Nat) : Int) by omega]
  exact ih k (A * 10) (i + 1) (by omega) (by omega) hA

theorem shifted_mk (s : Bool) (A d : Nat) (hd : d ≤ 1000) (h : A * 10 ^ d < 115792089237316195423570985008687907853269984665640564039457584007913129639936) : value_wide_shifted (mkW s A) (d : Int) = some (mkW s (A * 10 ^ d)) :=
 shifted_l s d hd d BIG A 0 (by omega) (by rw [big_val]; omega) h

theorem scaled_mk (n : Int) (d : Nat) (h0 : -9223372036854775808 ≤ n) (h1 : n ≤ 9223372036854775807) (hd : d ≤ 1000) (h : n.natAbs * 10 ^ d < 115792089237316195423570985008687907853269984665640564039457584007913129639936) :
  value_scaled n (d : Int) = some (mkW (decide (n < 0)) (n.natAbs * 10 ^ d)) := by
 unfold value_scaled
 rw [whole_mk n h0 h1, bnd_some', eta_w, shifted_mk _ _ d hd h, bnd_some']

theorem minus_j_w {s t : Bool} {x0 x1 x2 x3 y0 y1 y2 y3 : Int} (ha : W4 ⟨s, x0, x1, x2, x3⟩) (hb : W4 ⟨t, y0, y1, y2, y3⟩) (hle : val ⟨t, y0, y1, y2, y3⟩ ≤ val ⟨s, x0, x1, x2, x3⟩) :
  ∃ w, value_wide_minus_j1 s x0 x1 x2 x3 t y0 y1 y2 y3 = some w ∧ W4 w ∧ w.neg = s ∧ val w = val ⟨s, x0, x1, x2, x3⟩ - val ⟨t, y0, y1, y2, y3⟩ := by
 obtain ⟨a0, a1, b0, b1, c0, c1, d0, d1⟩ := ha
 obtain ⟨e0, e1, f0, f1, g0, g1, h0, h1⟩ := hb
 simp only at a0 a1 b0 b1 c0 c1 d0 d1 e0 e1 f0 f1 g0 g1 h0 h1
 simp only [val] at hle ⊢
 unfold value_wide_minus_j1
 simp only [bnd_eq, Int.add_zero, Int.sub_zero]
 have k1 : ∃ u, (if x0 < y0 then (1 : Int) else 0) = u ∧ 0 ≤ u ∧ u ≤ 1 ∧ (x0 - y0) % 18446744073709551616 = x0 - y0 + u * 18446744073709551616 := by
  split
  ·exact ⟨1, rfl, by omega, by omega, by omega⟩
  ·exact ⟨0, rfl, by omega, by omega, by omega⟩
 obtain ⟨u1, p1, p2, p3, p4⟩ := k1
 rw [p1, p4]
 have k2 : ∃ u, (if x1 < y1 + u1 then (1 : Int) else 0) = u ∧ 0 ≤ u ∧ u ≤ 1 ∧ (x1 - y1 - u1) % 18446744073709551616 = x1 - y1 - u1 + u * 18446744073709551616 := by
  split
  ·exact ⟨1, rfl, by omega, by omega, by omega⟩
  ·exact ⟨0, rfl, by omega, by omega, by omega⟩
 obtain ⟨u2, q1, q2, q3, q4⟩ := k2
 rw [q1, q4]
 have k3 : ∃ u, (if x2 < y2 + u2 then (1 : Int) else 0) = u ∧ 0 ≤ u ∧ u ≤ 1 ∧ (x2 - y2 - u2) % 18446744073709551616 = x2 - y2 - u2 + u * 18446744073709551616 := by
  split
  ·exact ⟨1, rfl, by omega, by omega, by omega⟩
  ·exact ⟨0, rfl, by omega, by omega, by omega⟩
 obtain ⟨u3, r1, r2, r3, r4⟩ := k3
 rw [r1, r4]
 rw [grd_pos (by omega), grd_pos (by omega), grd_pos (by omega), grd_pos (by omega)]
 have p5 : 0 ≤ x0 - y0 + u1 * 18446744073709551616 ∧ x0 - y0 + u1 * 18446744073709551616 < 18446744073709551616 := by omega
 have q5 : 0 ≤ x1 - y1 - u1 + u2 * 18446744073709551616 ∧ x1 - y1 - u1 + u2 * 18446744073709551616 < 18446744073709551616 := by omega
 have r5 : 0 ≤ x2 - y2 - u2 + u3 * 18446744073709551616 ∧ x2 - y2 - u2 + u3 * 18446744073709551616 < 18446744073709551616 := by omega
 clear p1 p4 q1 q4 r1 r4
 have s5 : (x3 - y3 - u3) % 18446744073709551616 = x3 - y3 - u3 := by omega
 rw [s5]
 refine ⟨_, rfl, ⟨p5.1, p5.2, q5.1, q5.2, r5.1, r5.2, by simp only; omega, by simp only; omega⟩, rfl, ?_⟩
 simp only
 omega

theorem plus_same_w {k : Nat} {b : Bool} {x0 x1 x2 x3 y0 y1 y2 y3 : Int} (ha : W4 ⟨b, x0, x1, x2, x3⟩) (hb : W4 ⟨b, y0, y1, y2, y3⟩) (hv : val ⟨b, x0, x1, x2, x3⟩ + val ⟨b, y0, y1, y2, y3⟩ < 115792089237316195423570985008687907853269984665640564039457584007913129639936) :
  ∃ w, value_wide_plus (k + 1) ⟨b, x0, x1, x2, x3⟩ ⟨b, y0, y1, y2, y3⟩ = some w ∧ W4 w ∧ w.neg = b ∧ val w = val ⟨b, x0, x1, x2, x3⟩ + val ⟨b, y0, y1, y2, y3⟩ := by
 obtain ⟨a0, a1, b0, b1', c0, c1, d0, d1⟩ := ha
 obtain ⟨e0, e1, f0, f1, g0, g1, h0, h1⟩ := hb
 simp only at a0 a1 b0 b1' c0 c1 d0 d1 e0 e1 f0 f1 g0 g1 h0 h1
 rw [value_wide_plus]
 simp only [beq_self_eq_true, Bool.not_true, ift_false, bnd_eq, Int.add_zero]
 simp only [val] at hv ⊢
 have m0 : x0 + y0 = (x0 + y0) / 18446744073709551616 * 18446744073709551616 + (x0 + y0) % 18446744073709551616 := by omega
 have u0 : 0 ≤ (x0 + y0) / 18446744073709551616 ∧ (x0 + y0) / 18446744073709551616 ≤ 1 := by omega
 have v0 : 0 ≤ (x0 + y0) % 18446744073709551616 ∧ (x0 + y0) % 18446744073709551616 < 18446744073709551616 := by omega
 generalize (x0 + y0) / 18446744073709551616 = t0 at *
 generalize (x0 + y0) % 18446744073709551616 = r0 at *
 have m1 : x1 + y1 + t0 = (x1 + y1 + t0) / 18446744073709551616 * 18446744073709551616 + (x1 + y1 + t0) % 18446744073709551616 := by omega
 have u1 : 0 ≤ (x1 + y1 + t0) / 18446744073709551616 ∧ (x1 + y1 + t0) / 18446744073709551616 ≤ 1 := by omega
 have v1 : 0 ≤ (x1 + y1 + t0) % 18446744073709551616 ∧ (x1 + y1 + t0) % 18446744073709551616 < 18446744073709551616 := by omega
 generalize (x1 + y1 + t0) / 18446744073709551616 = t1 at *
 generalize (x1 + y1 + t0) % 18446744073709551616 = r1 at *
 have m2 : x2 + y2 + t1 = (x2 + y2 + t1) / 18446744073709551616 * 18446744073709551616 + (x2 + y2 + t1) % 18446744073709551616 := by omega
 have u2 : 0 ≤ (x2 + y2 + t1) / 18446744073709551616 ∧ (x2 + y2 + t1) / 18446744073709551616 ≤ 1 := by omega
 have v2 : 0 ≤ (x2 + y2 + t1) % 18446744073709551616 ∧ (x2 + y2 + t1) % 18446744073709551616 < 18446744073709551616 := by omega
 generalize (x2 + y2 + t1) / 18446744073709551616 = t2 at *
 generalize (x2 + y2 + t1) % 18446744073709551616 = r2 at *
 have m3 : x3 + y3 + t2 = (x3 + y3 + t2) / 18446744073709551616 * 18446744073709551616 + (x3 + y3 + t2) % 18446744073709551616 := by omega
 have u3 : 0 ≤ (x3 + y3 + t2) / 18446744073709551616 ∧ (x3 + y3 + t2) / 18446744073709551616 ≤ 1 := by omega
 have v3 : 0 ≤ (x3 + y3 + t2) % 18446744073709551616 ∧ (x3 + y3 + t2) % 18446744073709551616 < 18446744073709551616 := by omega
 generalize (x3 + y3 + t2) / 18446744073709551616 = t3 at *
 generalize (x3 + y3 + t2) % 18446744073709551616 = r3 at *
 rw [grd_pos (by omega), grd_pos (by omega), grd_pos (by omega), grd_pos (by omega)]
 have z : t3 = 0 := by omega
 subst z
 refine ⟨_, rfl, ⟨v0.1, v0.2, v1.1, v1.2, v2.1, v2.2, v3.1, v3.2⟩, rfl, ?_⟩
 simp only
 omega

theorem minus_j_mk (a b : GWide) (ha : W4 a) (hb : W4 b) (hle : val b ≤ val a) :
  value_wide_minus_j1 a.neg a.size.1 a.size.2.1 a.size.2.2.1 a.size.2.2.2 b.neg b.size.1 b.size.2.1 b.size.2.2.1 b.size.2.2.2 = some (mkW a.neg (val a - val b).toNat) := by
 obtain ⟨w, h1, h2, h3, h4⟩ := minus_j_w ha hb hle
 rw [h1, w4_mk h2, h3, h4]

theorem plus_same_mk (k : Nat) (s : Bool) (A B : Nat) (hv : A + B < 115792089237316195423570985008687907853269984665640564039457584007913129639936) :
  value_wide_plus (k + 1) (mkW s A) (mkW s B) = some (mkW s (A + B)) := by
 have va := val_mkW s A (by omega)
 have vb := val_mkW s B (by omega)
 have hv' : val (mkW s A) + val (mkW s B) < 115792089237316195423570985008687907853269984665640564039457584007913129639936 := by rw [va, vb]; omega
 obtain ⟨w, h1, h2, h3, h4⟩ := plus_same_w (k := k) (mkW_w4 s A) (mkW_w4 s B) hv'
 have h5 : val w = ((A + B : Nat) : Int) := by
  have : val w = val (mkW s A) + val (mkW s B) := h4
  rw [this, va, vb]; omega
 have h6 := w4_eq h2 h3 h5
 rw [h6] at h1
 exact h1

def sgv (s : Bool) (A : Nat) : Int := if s = true then -(A : Int) else (A : Int)

theorem c3_neg {a b : Int} : decide (c3 a b < 0) = decide (a < b) := by
 unfold c3
 by_cases h : a < b
 ·simp [h]
 ·rw [if_neg h]; split <;> simp [h]

theorem minus_same_mk (k : Nat) (s : Bool) (A B : Nat) (hA : A < 115792089237316195423570985008687907853269984665640564039457584007913129639936) (hB : B < 115792089237316195423570985008687907853269984665640564039457584007913129639936) :
  value_wide_minus (k + 1) (mkW s A) (mkW s B) = some (if A < B then mkW (!s) (B - A) else mkW s (A - B)) := by
 rw [value_wide_minus, show (mkW s A).neg = s from rfl, show (mkW s B).neg = s from rfl]
 simp only [beq_self_eq_true, Bool.not_true, ift_false]
 have e := csize_mk s s A B hA hB
 have e' : value_compareSize (GWide.mk s ((mkW s A).size.1, (mkW s A).size.2.1, (mkW s A).size.2.2.1, (mkW s A).size.2.2.2)) (GWide.mk s ((mkW s B).size.1, (mkW s B).size.2.1, (mkW s B).size.2.2.1, (mkW s B).size.2.2.2)) = some (c3 (A : Int) (B : Int)) := e
 rw [e', bnd_some', c3_neg]
 by_cases h : A < B
 ·rw [show decide ((A : Int) < (B : Int)) = true by simpa using h, ift_true, if_pos h]
  unfold value_wide_negated
  rw [bnd_some']
  have va := val_mkW s A hA
  have vb := val_mkW (!s) B hB
  have q := minus_j_mk (mkW (!s) B) (mkW s A) (mkW_w4 _ _) (mkW_w4 _ _) (by rw [va, vb]; omega)
  rw [va, vb, show ((B : Int) - (A : Int)).toNat = B - A by omega] at q
  exact q
 ·rw [show decide ((A : Int) < (B : Int)) = false by simpa using h, ift_false, if_neg h]
  have va := val_mkW s A hA
  have vb := val_mkW s B hB
  have q := minus_j_mk (mkW s A) (mkW s B) (mkW_w4 _ _) (mkW_w4 _ _) (by rw [va, vb]; omega)
  rw [va, vb, show ((A : Int) - (B : Int)).toNat = A - B by omega] at q
  exact q

theorem plus_mk (s t : Bool) (A B : Nat) (hv : A + B < 115792089237316195423570985008687907853269984665640564039457584007913129639936) :
  ∃ u C, value_wide_plus BIG (mkW s A) (mkW t B) = some (mkW u C) ∧ sgv u C = sgv s A + sgv t B ∧ C ≤ A + B := by
 have hB : BIG = 1152921504606846974 + 1 + 1 := rfl
 by_cases h : s = t
 ·subst h
  rw [hB, plus_same_mk _ s A B hv]
  refine ⟨s, A + B, rfl, ?_, Nat.le_refl _⟩
  unfold sgv; cases s <;> simp <;> omega
 ·rw [hB, value_wide_plus, show (mkW s A).neg = s from rfl, show (mkW t B).neg = t from rfl]
  have hb := bool_ne s t h
  rw [hb.1, ift_true]
  unfold value_wide_negated
  rw [bnd_some']
  show ∃ u C, bnd (value_wide_minus (1152921504606846974 + 1) (mkW s A) (mkW (!t) B)) _ = _ ∧ _
  rw [hb.2, minus_same_mk _ s A B (by omega) (by omega), bnd_some', eta_w]
  by_cases hlt : A < B
  ·rw [if_pos hlt]
   refine ⟨!s, B - A, rfl, ?_, by omega⟩
   unfold sgv; revert h; cases s <;> cases t <;> simp <;> omega
  ·rw [if_neg hlt]
   refine ⟨s, A - B, rfl, ?_, by omega⟩
   unfold sgv; revert h; cases s <;> cases t <;> simp <;> omega

theorem minus_mk (s t : Bool) (A B : Nat) (hv : A + B < 115792089237316195423570985008687907853269984665640564039457584007913129639936) :
  ∃ u C, value_wide_minus BIG (mkW s A) (mkW t B) = some (mkW u C) ∧ sgv u C = sgv s A - sgv t B ∧ C ≤ A + B := by
 have hB : BIG = 1152921504606846974 + 1 + 1 := rfl
 by_cases h : s = t
 ·subst h
  rw [hB, minus_same_mk _ s A B (by omega) (by omega)]
  by_cases hlt : A < B
  ·rw [if_pos hlt]
   refine ⟨!s, B - A, rfl, ?_, by omega⟩
   unfold sgv; cases s <;> simp <;> omega
  ·rw [if_neg hlt]
   refine ⟨s, A - B, rfl, ?_, by omega⟩
   unfold sgv; cases s <;> simp <;> omega
 ·rw [hB, value_wide_minus, show (mkW s A).neg = s from rfl, show (mkW t B).neg = t from rfl]
  have hb := bool_ne s t h
  rw [hb.1, ift_true]
  unfold value_wide_negated
  rw [bnd_some']
  show ∃ u C, bnd (value_wide_plus (1152921504606846974 + 1) (mkW s A) (mkW (!t) B)) _ = _ ∧ _
  rw [hb.2, plus_same_mk _ s A B hv, bnd_some', eta_w]
  refine ⟨s, A + B, rfl, ?_, Nat.le_refl _⟩
  unfold sgv; revert h; cases s <;> cases t <;> simp <;> omega

end Go.Proofs.YtdkmclmdemngfaaDoor
namespace Go.Proofs.YtdkmclmdemngfaaDoor
open Go Go.SX Go.SX.Cal
set_option linter.unusedVariables false
set_option linter.unusedSimpArgs false

theorem wd_or (Q n j : Nat) : wd (Q ||| 2 ^ n) j = wd Q j ||| (if j = n / 64 then 2 ^ (n % 64) else 0) := by
 refine Nat.eq_of_testBit_eq fun i => ?_
 unfold wd
 rw [Nat.testBit_mod_two_pow, Nat.testBit_div_two_pow, Nat.testBit_or, Nat.testBit_or, Nat.testBit_mod_two_pow, Nat.testBit_div_two_pow, Nat.testBit_two_pow]
 by_cases hj : j = n / 64
 ·rw [if_pos hj, Nat.testBit_two_pow]
  by_cases hi : i < 64
  ·have : (n = i + 64 * j) ↔ (n % 64 = i) := by omega
   simp [hi, this]
  ·have : ¬ (n % 64 = i) := by omega
   simp [hi, this]
 ·rw [if_neg hj]
  by_cases hi : i < 64
  ·have : ¬ (n = i + 64 * j) := by omega
   simp [hi, this]
  ·simp [hi]

theorem bit_wd (A n : Nat) : wd A (n / 64) / 2 ^ (n % 64) % 2 = A / 2 ^ n % 2 := by
 have h : (wd A (n / 64)).testBit (n % 64) = A.testBit n := by
  unfold wd
  rw [Nat.testBit_mod_two_pow, Nat.testBit_div_two_pow, show n % 64 + 64 * (n / 64) = n by omega]
  have : n % 64 < 64 := Nat.mod_lt _ (by decide)
  simp [this]
 rw [Nat.testBit_eq_decide_div_mod_eq, Nat.testBit_eq_decide_div_mod_eq] at h
 have h1 := Nat.mod_two_eq_zero_or_one (wd A (n / 64) / 2 ^ (n % 64))
 have h2 := Nat.mod_two_eq_zero_or_one (A / 2 ^ n)
 rcases h1 with h1 | h1 <;> rcases h2 with h2 | h2 <;> simp_all

theorem ofI (x : Nat) (h : x < 18446744073709551616) : (BitVec.ofInt 64 (x : Int)).toNat = x := by
 rw [BitVec.toNat_ofInt]
 have : (x : Int) % ((2 ^ 64 : Nat) : Int) = x := by omega
 rw [this]; rfl

theorem or64 (x y : Nat) (hx : x < 18446744073709551616) (hy : y < 18446744073709551616) : IntKind.u64.wrap ((BitVec.ofInt (IntKind.u64).bits (x : Int) ||| BitVec.ofInt (IntKind.u64).bits (y : Int)).toNat : Int) = ((x ||| y : Nat) : Int) := by
 show IntKind.u64.wrap ((BitVec.ofInt 64 (x : Int) ||| BitVec.ofInt 64 (y : Int)).toNat : Int) = _
 rw [BitVec.toNat_or, ofI x hx, ofI y hy, wu]
 have : x ||| y < 2 ^ 64 := Nat.or_lt_two_pow hx hy
 omega

theorem and1 (x : Nat) (hx : x < 18446744073709551616) : IntKind.u64.wrap ((BitVec.ofInt (IntKind.u64).bits (x : Int) &&& BitVec.ofInt (IntKind.u64).bits (1 : Int)).toNat : Int) = ((x % 2 : Nat) : Int) := by
 show IntKind.u64.wrap ((BitVec.ofInt 64 (x : Int) &&& BitVec.ofInt 64 ((1 : Nat) : Int)).toNat : Int) = _
 rw [BitVec.toNat_and, ofI x hx, ofI 1 (by decide), wu]
 have e : x &&& 1 = x % 2 := Nat.and_two_pow_sub_one_eq_mod x 1
 rw [e]
 omega

theorem or_bit (x b : Nat) (hx : x % 2 = 0) (hb : b < 2) : x ||| b = x + b := by
 have := Nat.two_pow_add_eq_or_of_lt (i := 1) (b := b) (by simpa using hb) (x / 2)
 rw [show 2 ^ 1 * (x / 2) = x by omega] at this
 exact this.symm

theorem fd (x s : Nat) : (x : Int).fdiv (2 ^ s) = ((x / 2 ^ s : Nat) : Int) := by
 rw [Int.fdiv_eq_ediv_of_nonneg _ (Int.le_of_lt (Int.pow_pos (by decide)))]
 push_cast; rfl

theorem wd_lt (A j : Nat) : wd A j < 18446744073709551616 := Nat.mod_lt _ (by decide)

theorem min64 (s : Nat) (h : s < 64) : min ((s : Int)).toNat (IntKind.u64).bits = s := by
 show min ((s : Int)).toNat 64 = s
 omega

theorem pow64 (s : Nat) (h : s < 64) : IntKind.u64.wrap ((1 : Int) * 2 ^ s) = ((2 ^ s : Nat) : Int) := by
 have : 2 ^ s < 2 ^ 64 := Nat.pow_lt_pow_right (by decide) h
 rw [wu, Int.one_mul, show ((2 : Int) ^ s) = ((2 ^ s : Nat) : Int) by push_cast; rfl]
 generalize 2 ^ s = P at *
 omega

theorem wd_bit (R b : Nat) (hb : b < 2) : wd (R * 2) 0 ||| b = wd (R * 2 + b) 0 ∧ wd (R * 2) 1 = wd (R * 2 + b) 1 ∧ wd (R * 2) 2 = wd (R * 2 + b) 2 ∧ wd (R * 2) 3 = wd (R * 2 + b) 3 := by
 rw [or_bit _ _ (by rw [wd0]; omega) hb]
 simp only [wd0, wd1, wd2, wd3]
 omega

abbrev QT := Int → Int → Int → Int → Bool → Int → Int → Int → Int → Int → Option (GWide × GWide)

theorem quo_j1 (rec1 : QT) (t b : Bool) (B Q C n : Nat) (hn : n < 256) (hB : B < 57896044618658097711785492504343953926634992332820282019728792003956564819968) (hC : C < 115792089237316195423570985008687907853269984665640564039457584007913129639936) (r1 : GWide) (hr : r1.neg = b) (h1 : r1.size.2.1 = (wd C 1 : Int)) (h2 : r1.size.2.2.1 = (wd C 2 : Int)) (h3 : r1.size.2.2.2 = (wd C 3 : Int)) :
  value_wide_quo_j1 rec1 (mkW t B) (wd Q 0) (wd Q 1) (wd Q 2) (wd Q 3) (n : Int) r1 (wd C 0) =
   if B ≤ C then rec1 (wd (Q ||| 2 ^ n) 0) (wd (Q ||| 2 ^ n) 1) (wd (Q ||| 2 ^ n) 2) (wd (Q ||| 2 ^ n) 3) false (wd (C - B) 0) (wd (C - B) 1) (wd (C - B) 2) (wd (C - B) 3) ((n : Int) - 1)
   else rec1 (wd Q 0) (wd Q 1) (wd Q 2) (wd Q 3) b (wd C 0) (wd C 1) (wd C 2) (wd C 3) ((n : Int) - 1) := by
 unfold value_wide_quo_j1
 rw [h1, h2, h3, hr, eta_w]
 have e1 : value_compareSize (GWide.mk b ((wd C 0 : Int), (wd C 1 : Int), (wd C 2 : Int), (wd C 3 : Int))) (mkW t B) = some (c3 (C : Int) (B : Int)) := csize_mk b t C B hC (by omega)
 rw [e1, bnd_some']
 have hw : IntKind.i64.wrap ((n : Int) - 1) = (n : Int) - 1 := w64 (by omega) (by omega)
 by_cases h : B ≤ C
 ·rw [show decide ((0 : Int) ≤ c3 (C : Int) (B : Int)) = true by unfold c3; rw [if_neg (by omega)]; split <;> simp, ift_true, if_pos h]
  have e2 : value_wide_minus BIG (GWide.mk false ((wd C 0 : Int), (wd C 1 : Int), (wd C 2 : Int), (wd C 3 : Int))) (GWide.mk false ((mkW t B).size.1, (mkW t B).size.2.1, (mkW t B).size.2.2.1, (mkW t B).size.2.2.2)) = some (mkW false (C - B)) := by
   have := minus_same_mk 1152921504606846975 false C B hC (by omega)
   rw [if_neg (by omega)] at this
   exact this
  rw [e2, bnd_some']
  have e3 : IntKind.i64.wrap ((n : Int).tdiv 64) = ((n / 64 : Nat) : Int) := by
   rw [Int.tdiv_eq_ediv_of_nonneg (by omega), w64 (by omega) (by omega)]; omega
  have e4 : (n : Int).tmod 64 = ((n % 64 : Nat) : Int) := by
   rw [Int.tmod_eq_emod_of_nonneg (by omega)]; omega
  have hs : n % 64 < 64 := Nat.mod_lt _ (by decide)
  have hp : 2 ^ (n % 64) < 18446744073709551616 := Nat.pow_lt_pow_right (by decide) hs
  rw [e3, e4, min64 _ hs, pow64 _ hs]
  simp only [bnd_some']
  rw [or64 _ _ (wd_lt Q 0) hp, or64 _ _ (wd_lt Q 1) hp, or64 _ _ (wd_lt Q 2) hp, or64 _ _ (wd_lt Q 3) hp, wd_or Q n 0, wd_or Q n 1, wd_or Q n 2, wd_or Q n 3]
  have hc : n / 64 = 0 ∨ n / 64 = 1 ∨ n / 64 = 2 ∨ n / 64 = 3 := by omega
  unfold value_wide_quo_j2 grd
  have hg : (0 : Int) ≤ ((n % 64 : Nat) : Int) := by omega
  simp only [if_pos hg, hw]
  rcases hc with hc | hc | hc | hc <;> simp only [hc, ift_ite] <;> simp [mkW]
 ·rw [show decide ((0 : Int) ≤ c3 (C : Int) (B : Int)) = false by unfold c3; rw [if_pos (by omega)]; rfl, ift_false, if_neg h]
  unfold value_wide_quo_j2
  rw [hw]

theorem quo_step (s t b : Bool) (A B Q R n k : Nat) (hn : n < 256) (hB : B < 57896044618658097711785492504343953926634992332820282019728792003956564819968) (hR : R < B) :
  value_wide_quo_l1 (mkW s A) (mkW t B) (k + 1) (wd Q 0) (wd Q 1) (wd Q 2) (wd Q 3) b (wd R 0) (wd R 1) (wd R 2) (wd R 3) (n : Int) =
   if B ≤ R * 2 + A / 2 ^ n % 2 then value_wide_quo_l1 (mkW s A) (mkW t B) k (wd (Q ||| 2 ^ n) 0) (wd (Q ||| 2 ^ n) 1) (wd (Q ||| 2 ^ n) 2) (wd (Q ||| 2 ^ n) 3) false (wd (R * 2 + A / 2 ^ n % 2 - B) 0) (wd (R * 2 + A / 2 ^ n % 2 - B) 1) (wd (R * 2 + A / 2 ^ n % 2 - B) 2) (wd (R * 2 + A / 2 ^ n % 2 - B) 3) ((n : Int) - 1)
   else value_wide_quo_l1 (mkW s A) (mkW t B) k (wd Q 0) (wd Q 1) (wd Q 2) (wd Q 3) b (wd (R * 2 + A / 2 ^ n % 2) 0) (wd (R * 2 + A / 2 ^ n % 2) 1) (wd (R * 2 + A / 2 ^ n % 2) 2) (wd (R * 2 + A / 2 ^ n % 2) 3) ((n : Int) - 1) := by
 rw [value_wide_quo_l1, show decide ((0 : Int) ≤ (n : Int)) = true by simp, ift_true]
 have e1 : value_wide_times (GWide.mk b ((wd R 0 : Int), (wd R 1 : Int), (wd R 2 : Int), (wd R 3 : Int))) (2 : Int) = some (mkW b (R * 2)) := times_mk b R 2 (by decide) (by omega) (by omega)
 rw [e1, bnd_some']
 have e3 : IntKind.i64.wrap ((n : Int).tdiv 64) = ((n / 64 : Nat) : Int) := by
  rw [Int.tdiv_eq_ediv_of_nonneg (by omega), w64 (by omega) (by omega)]; omega
 have e4 : (n : Int).tmod 64 = ((n % 64 : Nat) : Int) := by
  rw [Int.tmod_eq_emod_of_nonneg (by omega)]; omega
 have hs : n % 64 < 64 := Nat.mod_lt _ (by decide)
 have hbit : A / 2 ^ n % 2 < 2 := Nat.mod_lt _ (by decide)
 have hb2 := bit_wd A n
 generalize hbb : A / 2 ^ n % 2 = bit at *
 obtain ⟨w0, w1, w2, w3⟩ := wd_bit R bit hbit
 have fin := quo_j1 (value_wide_quo_l1 (mkW s A) (mkW t B) k) t b B Q (R * 2 + bit) n hn hB (by omega) (mkW b (R * 2)) rfl (by rw [← w1]; rfl) (by rw [← w2]; rfl) (by rw [← w3]; rfl)
 rw [e3, e4, min64 _ hs]
 simp only [bnd_some']
 have key : ∀ j, n / 64 = j → IntKind.u64.wrap ((BitVec.ofInt (IntKind.u64).bits (mkW b (R * 2)).size.1 ||| BitVec.ofInt (IntKind.u64).bits (IntKind.u64.wrap ((BitVec.ofInt (IntKind.u64).bits ((wd A j : Int).fdiv (2 ^ (n % 64))) &&& BitVec.ofInt (IntKind.u64).bits (1 : Int)).toNat : Int))).toNat : Int) = (wd (R * 2 + bit) 0 : Int) := by
  intro j hj
  subst hj
  have hlt : wd A (n / 64) / 2 ^ (n % 64) < 18446744073709551616 := Nat.lt_of_le_of_lt (Nat.div_le_self _ _) (wd_lt _ _)
  rw [fd, and1 _ hlt, hb2, show (mkW b (R * 2)).size.1 = (wd (R * 2) 0 : Int) from rfl, or64 _ _ (wd_lt _ _) (by omega), w0]
 have hc : n / 64 = 0 ∨ n / 64 = 1 ∨ n / 64 = 2 ∨ n / 64 = 3 := by omega
 have hg : (0 : Int) ≤ ((n % 64 : Nat) : Int) := by omega
 simp only [grd, if_pos hg]
 rcases hc with hc | hc | hc | hc
 ·rw [hc, show (((0 : Nat) : Int) == (0 : Int)) = true from rfl, ift_true]
  have := key 0 hc
  rw [show (mkW s A).size.1 = (wd A 0 : Int) from rfl, this]; exact fin
 ·rw [hc, show (((1 : Nat) : Int) == (0 : Int)) = false from rfl, show (((1 : Nat) : Int) == (1 : Int)) = true from rfl, ift_false, ift_true]
  have := key 1 hc
  rw [show (mkW s A).size.2.1 = (wd A 1 : Int) from rfl, this]; exact fin
 ·rw [hc, show (((2 : Nat) : Int) == (0 : Int)) = false from rfl, show (((2 : Nat) : Int) == (1 : Int)) = false from rfl, show (((2 : Nat) : Int) == (2 : Int)) = true from rfl, ift_false, ift_false, ift_true]
  have := key 2 hc
  rw [show (mkW s A).size.2.2.1 = (wd A 2 : Int) from rfl, this]; exact fin
 ·rw [hc, show (((3 : Nat) : Int) == (0 : Int)) = false from rfl, show (((3 : Nat) : Int) == (1 : Int)) = false from rfl, show (((3 : Nat) : Int) == (2 : Int)) = false from rfl, show (((3 : Nat) : Int) == (3 : Int)) = true from rfl, ift_false, ift_false, ift_false, ift_true]
  have := key 3 hc
  rw [show (mkW s A).size.2.2.2 = (wd A 3 : Int) from rfl, this]; exact fin

theorem div_step (P B bit : Nat) (hB : 0 < B) (hb : bit < 2) :
  (B ≤ P % B * 2 + bit → (2 * P + bit) / B = 2 * (P / B) + 1 ∧ (2 * P + bit) % B = P % B * 2 + bit - B) ∧
  (¬ B ≤ P % B * 2 + bit → (2 * P + bit) / B = 2 * (P / B) ∧ (2 * P + bit) % B = P % B * 2 + bit) := by
 have h := Nat.div_add_mod P B
 have hm := Nat.mod_lt P hB
 have e : B * (2 * (P / B)) = 2 * (B * (P / B)) := by rw [Nat.mul_left_comm]
 constructor
 ·intro hc
  have e2 : B * (2 * (P / B) + 1) = B * (2 * (P / B)) + B := by rw [Nat.mul_add, Nat.mul_one]
  exact (Nat.div_mod_unique hB).2 ⟨by omega, by omega⟩
 ·intro hc
  exact (Nat.div_mod_unique hB).2 ⟨by omega, by omega⟩

theorem quo_loop (s t : Bool) (A B : Nat) (hB0 : 0 < B) (hB : B < 57896044618658097711785492504343953926634992332820282019728792003956564819968) : ∀ (n k : Nat) (b : Bool), n ≤ 256 → n < k →
  value_wide_quo_l1 (mkW s A) (mkW t B) k (wd (2 ^ n * (A / 2 ^ n / B)) 0) (wd (2 ^ n * (A / 2 ^ n / B)) 1) (wd (2 ^ n * (A / 2 ^ n / B)) 2) (wd (2 ^ n * (A / 2 ^ n / B)) 3) b (wd (A / 2 ^ n % B) 0) (wd (A / 2 ^ n % B) 1) (wd (A / 2 ^ n % B) 2) (wd (A / 2 ^ n % B) 3) ((n : Int) - 1) = some (mkW (!(s == t)) (A / B), mkW s (A % B)) := by
 intro n
 induction n with
 | zero =>
  intro k b hn hk
  obtain ⟨k, rfl⟩ : ∃ q, k = q + 1 := ⟨k - 1, by omega⟩
  rw [value_wide_quo_l1, show decide ((0 : Int) ≤ ((0 : Nat) : Int) - 1) = false from rfl, ift_false, Nat.pow_zero, Nat.one_mul, Nat.div_one]
  rfl
 | succ n ih =>
  intro k b hn hk
  obtain ⟨k, rfl⟩ : ∃ q, k = q + 1 := ⟨k - 1, by omega⟩
  have hA : A / 2 ^ n = 2 * (A / 2 ^ (n + 1)) + A / 2 ^ n % 2 := by
   rw [Nat.pow_succ, ← Nat.div_div_eq_div_mul]; omega
  rw [show ((n + 1 : Nat) : Int) - 1 = (n : Int) by omega, quo_step s t b A B _ _ n k (by omega) hB (Nat.mod_lt _ hB0)]
  obtain ⟨d1, d2⟩ := div_step (A / 2 ^ (n + 1)) B (A / 2 ^ n % 2) hB0 (Nat.mod_lt _ (by decide))
  rw [← hA] at d1 d2
  by_cases hc : B ≤ A / 2 ^ (n + 1) % B * 2 + A / 2 ^ n % 2
  ·rw [if_pos hc]
   obtain ⟨q1, q2⟩ := d1 hc
   rw [← q2]
   have hq : 2 ^ (n + 1) * (A / 2 ^ (n + 1) / B) ||| 2 ^ n = 2 ^ n * (A / 2 ^ n / B) := by
    rw [← Nat.two_pow_add_eq_or_of_lt (Nat.pow_lt_pow_right (by decide) (by omega)), q1, Nat.pow_succ, Nat.mul_add, Nat.mul_one, Nat.mul_assoc]
   rw [hq]
   exact ih k false (by omega) (by omega)
  ·rw [if_neg hc]
   obtain ⟨q1, q2⟩ := d2 hc
   rw [← q2]
   have hq : 2 ^ (n + 1) * (A / 2 ^ (n + 1) / B) = 2 ^ n * (A / 2 ^ n / B) := by
    rw [q1, Nat.pow_succ, Nat.mul_assoc]
   rw [hq]
   exact ih k b (by omega) (by omega)

theorem quo_mk (s t : Bool) (A B : Nat) (hA : A < 115792089237316195423570985008687907853269984665640564039457584007913129639936) (hB0 : 0 < B) (hB : B < 57896044618658097711785492504343953926634992332820282019728792003956564819968) :
  value_wide_quo (mkW s A) (mkW t B) = some (mkW (!(s == t)) (A / B), mkW s (A % B)) := by
 have h := quo_loop s t A B hB0 hB 256 BIG false (Nat.le_refl _) (by rw [big_val]; omega)
 have hz : A / 2 ^ 256 = 0 := Nat.div_eq_of_lt hA
 rw [hz, Nat.zero_div, Nat.mul_zero, Nat.zero_mod] at h
 exact h

def rhn (A B : Nat) : Nat := if B < A % B * 2 ∨ (A % B * 2 = B ∧ A / B % 2 = 1) then A / B + 1 else A / B

theorem rhn_le (A B : Nat) : rhn A B ≤ A / B + 1 := by unfold rhn; split <;> omega

theorem rounded_mk (s t : Bool) (A B : Nat) (hA : A < 57896044618658097711785492504343953926634992332820282019728792003956564819968) (hB0 : 0 < B) (hB : B < 57896044618658097711785492504343953926634992332820282019728792003956564819968) :
  value_wide_rounded (mkW s A) (mkW t B) = some (mkW (!(s == t)) (rhn A B)) := by
 unfold value_wide_rounded
 have hm := Nat.mod_lt A hB0
 have hd := Nat.div_le_self A B
 rw [eta_w, eta_w, quo_mk s t A B (by omega) hB0 hB, bnd_some']
 simp only
 have e1 : value_wide_times (mkW s (A % B)) (2 : Int) = some (mkW s (A % B * 2)) := times_mk s (A % B) 2 (by decide) (by omega) (by omega)
 rw [eta_w, e1, bnd_some', eta_w, csize_mk s t (A % B * 2) B (by omega) (by omega), bnd_some']
 rw [show (mkW (!(s == t)) (A / B)).size.1 = (wd (A / B) 0 : Int) from rfl, and1 _ (wd_lt _ _), bnd_some']
 have hbit : wd (A / B) 0 % 2 = A / B % 2 := by rw [wd0]; omega
 rw [hbit]
 have up : value_wide_rounded_j1 (mkW (!(s == t)) (A / B), mkW s (A % B)) true = some (mkW (!(s == t)) (A / B + 1)) := by
  unfold value_wide_rounded_j1
  rw [ift_true, whole_mk 1 (by decide) (by decide), bnd_some']
  have := plus_same_mk 1152921504606846975 (!(s == t)) (A / B) 1 (by omega)
  have e : value_wide_plus BIG (GWide.mk (mkW (!(s == t)) (A / B)).neg ((mkW (!(s == t)) (A / B)).size.1, (mkW (!(s == t)) (A / B)).size.2.1, (mkW (!(s == t)) (A / B)).size.2.2.1, (mkW (!(s == t)) (A / B)).size.2.2.2)) (GWide.mk (mkW (!(s == t)) (A / B)).neg ((mkW (decide ((1 : Int) < 0)) (Int.natAbs 1)).size.1, (mkW (decide ((1 : Int) < 0)) (Int.natAbs 1)).size.2.1, (mkW (decide ((1 : Int) < 0)) (Int.natAbs 1)).size.2.2.1, (mkW (decide ((1 : Int) < 0)) (Int.natAbs 1)).size.2.2.2)) = some (mkW (!(s == t)) (A / B + 1)) := this
  rw [e, bnd_some']
  rfl
 have down : value_wide_rounded_j1 (mkW (!(s == t)) (A / B), mkW s (A % B)) false = some (mkW (!(s == t)) (A / B)) := rfl
 unfold rhn
 by_cases h1 : B < A % B * 2
 ·rw [show decide ((0 : Int) < c3 ((A % B * 2 : Nat) : Int) (B : Int)) = true by unfold c3; rw [if_neg (by omega), if_pos (by omega)]; rfl, ift_true, if_pos (.inl h1)]
  exact up
 ·by_cases h2 : A % B * 2 = B
  ·rw [show c3 ((A % B * 2 : Nat) : Int) (B : Int) = 0 by unfold c3; rw [if_neg (by omega), if_neg (by omega)]]
   rw [show decide ((0 : Int) < 0) = false from rfl, show ((0 : Int) == 0) = true from rfl, ift_false, ift_true]
   by_cases h3 : A / B % 2 = 1
   ·rw [h3, if_pos (.inr ⟨h2, rfl⟩)]; exact up
   ·rw [if_neg (by omega), show (((A / B % 2 : Nat) : Int) == (1 : Int)) = false by simp; omega]; exact down
  ·rw [show c3 ((A % B * 2 : Nat) : Int) (B : Int) = -1 by unfold c3; rw [if_pos (by omega)]]
   rw [show decide ((0 : Int) < -1) = false from rfl, show ((-1 : Int) == 0) = false from rfl, ift_false, ift_false, if_neg (by omega)]
   exact down

theorem number_mk (s : Bool) (A : Nat) (hA : A < 115792089237316195423570985008687907853269984665640564039457584007913129639936) : value_wide_number (mkW s A) = some (if A < 9223372036854775808 then (sgv s A, true) else (0, false)) := by
 unfold value_wide_number
 rw [show (mkW s A).size.2.1 = (wd A 1 : Int) from rfl, show (mkW s A).size.2.2.1 = (wd A 2 : Int) from rfl, show (mkW s A).size.2.2.2 = (wd A 3 : Int) from rfl, show (mkW s A).size.1 = (wd A 0 : Int) from rfl, or64 _ _ (wd_lt _ _) (wd_lt _ _), bnd_some', or64 _ _ (Nat.or_lt_two_pow (n := 64) (wd_lt _ _) (wd_lt _ _)) (wd_lt _ _), bnd_some']
 have hz : (wd A 1 ||| wd A 2 ||| wd A 3 = 0) ↔ A < 18446744073709551616 := by
  rw [Nat.or_eq_zero_iff, Nat.or_eq_zero_iff, wd1, wd2, wd3]; omega
 have bad : value_wide_number_j1 (mkW s A) true = some (0, false) := rfl
 by_cases h : A < 18446744073709551616
 ·rw [hz.2 h, show ((((0 : Nat) : Int)) != (0 : Int)) = false from rfl, ift_false]
  have hw : wd A 0 = A := by rw [wd0]; omega
  rw [hw]
  by_cases h2 : A < 9223372036854775808
  ·rw [show decide ((9223372036854775808 : Int) ≤ (A : Int)) = false by simp; omega, if_pos h2]
   unfold value_wide_number_j1
   rw [ift_false, show (mkW s A).neg = s from rfl, show (mkW s A).size.1 = (wd A 0 : Int) from rfl, hw, w64 (x := (A : Int)) (by omega) (by omega), w64 (x := 0 - (A : Int)) (by omega) (by omega)]
   cases s
   ·rfl
   ·simp only [ift_true, sgv]; simp
  ·rw [show decide ((9223372036854775808 : Int) ≤ (A : Int)) = true by simp; omega, if_neg h2]; exact bad
 ·have hne : wd A 1 ||| wd A 2 ||| wd A 3 ≠ 0 := fun e => h (hz.1 e)
  rw [show ((((wd A 1 ||| wd A 2 ||| wd A 3 : Nat) : Int)) != (0 : Int)) = true by simp only [bne_iff_ne, ne_eq]; omega, ift_true, if_neg (by omega)]; exact bad

theorem product_mk (a b : Int) (ha0 : -9223372036854775807 ≤ a) (ha1 : a ≤ 9223372036854775807) (hb0 : -9223372036854775807 ≤ b) (hb1 : b ≤ 9223372036854775807) :
  ∃ s, value_product a b = some (mkW s (a.natAbs * b.natAbs)) ∧ sgv s (a.natAbs * b.natAbs) = a * b := by
 unfold value_product
 have hsize : value_size b = some ((b.natAbs : Nat) : Int) := by
  unfold value_size
  rw [bnd_some', w64 (x := 0 - b) (by omega) (by omega), wu]
  congr 1
  split <;> omega
 have hm : a.natAbs * b.natAbs ≤ 9223372036854775807 * 9223372036854775807 := Nat.mul_le_mul (by omega) (by omega)
 have hm' : a.natAbs * b.natAbs < 115792089237316195423570985008687907853269984665640564039457584007913129639936 := Nat.lt_of_le_of_lt hm (by decide)
 rw [whole_mk a (by omega) ha1, bnd_some', hsize, bnd_some', eta_w, times_mk _ _ _ (by omega) hm' (by omega), bnd_some']
 refine ⟨!(decide (a < 0) == decide (b < 0)), rfl, ?_⟩
 unfold sgv
 rw [Int.natCast_mul]
 by_cases h1 : a < 0 <;> by_cases h2 : b < 0
 ·rw [show ((a.natAbs : Nat) : Int) = -a by omega, show ((b.natAbs : Nat) : Int) = -b by omega]; simp [h1, h2, Int.neg_mul, Int.mul_neg, Int.neg_neg]
 ·rw [show ((a.natAbs : Nat) : Int) = -a by omega, show ((b.natAbs : Nat) : Int) = b by omega]; simp [h1, h2, Int.neg_mul, Int.mul_neg, Int.neg_neg]
 ·rw [show ((a.natAbs : Nat) : Int) = a by omega, show ((b.natAbs : Nat) : Int) = -b by omega]; simp [h1, h2, Int.neg_mul, Int.mul_neg, Int.neg_neg]
 ·rw [show ((a.natAbs : Nat) : Int) = a by omega, show ((b.natAbs : Nat) : Int) = b by omega]; simp [h1, h2, Int.neg_mul, Int.mul_neg, Int.neg_neg]

theorem zero_mk (s : Bool) (A : Nat) (hA : A < 115792089237316195423570985008687907853269984665640564039457584007913129639936) : value_wide_zero (mkW s A) = some (decide (A = 0)) := by
 unfold value_wide_zero mkW
 simp only [bnd_some', wd0, wd1, wd2, wd3]
 congr 1
 rw [Bool.eq_iff_iff]
 simp only [Bool.and_true, Bool.and_eq_true, beq_iff_eq, decide_eq_true_eq]
 omega

end Go.Proofs.YtdkmclmdemngfaaDoor
namespace Go.Proofs.YtdkmclmdemngfaaDoor
open Go Go.SX Go.SX.Cal Go.Lib
set_option linter.unusedVariables false
set_option linter.unusedSimpArgs false

def sg (b : Bool) (z : Int) : Int := if b = true then -z else z

structure RWn (w : RWide) (z : Int) (N : Nat) : Prop where
 d : digs w.d
 t : top w.d
 l : w.d.length ≤ N
 b : w.below = true → w.d ≠ []
 v : z = sg w.below (dval w.d)

theorem dval_zero {l : List Int} (h : digs l) (t : top l) : dval l = 0 ↔ l = [] := by
 constructor
 ·intro e
  cases hl : l with
  | nil => rfl
  | cons x m =>
   have h1 := dval_ge h t (by simp [hl])
   have h2 := p10_pos (l.length - 1)
   omega
 ·rintro rfl; rfl

end Go.Proofs.YtdkmclmdemngfaaDoor
namespace Go.Proofs.YtdkmclmdemngfaaDoor
open Go Go.SX Go.SX.Cal Go.Lib
set_option linter.unusedVariables false
set_option linter.unusedSimpArgs false

theorem p10_pow : ∀ n, p10 n = ((10 ^ n : Nat) : Int)
 | 0 => rfl
 | n + 1 => by simp only [p10, p10_pow n, Nat.pow_succ]; push_cast; rfl

theorem RWn.mono {w : RWide} {z : Int} {N M : Nat} (h : RWn w z N) (hm : N ≤ M) : RWn w z M := ⟨h.d, h.t, Nat.le_trans h.l hm, h.b, h.v⟩

theorem RWn.neg {w : RWide} {z : Int} {N : Nat} (h : RWn w z N) : decide (z < 0) = w.below := by
 have h0 := dval_nonneg h.d
 have hv := h.v
 unfold sg at hv
 by_cases hb : w.below = true
 ·rw [if_pos hb] at hv
  have : dval w.d ≠ 0 := fun e => h.b hb ((dval_zero h.d h.t).1 e)
  rw [hb]; simp; omega
 ·rw [if_neg hb] at hv
  have hb' : w.below = false := by simpa using hb
  rw [hb']; simp; omega

theorem RWn.abs {w : RWide} {z : Int} {N : Nat} (h : RWn w z N) : dval w.d = (z.natAbs : Int) := by
 have h0 := dval_nonneg h.d
 have hv := h.v
 unfold sg at hv
 split at hv <;> omega

theorem RWn.nil {w : RWide} {z : Int} {N : Nat} (h : RWn w z N) : (w.d.length = 0) ↔ z = 0 := by
 have := h.abs
 have h2 := dval_zero h.d h.t
 rw [List.length_eq_zero_iff, ← h2]; omega

theorem RWn.lt {w : RWide} {z : Int} {N : Nat} (h : RWn w z N) : (z.natAbs : Int) < p10 N := by
 rw [← h.abs]
 exact Int.lt_of_lt_of_le (dval_lt h.d) (p10_mono h.l)

/-! ### products -/

/-! ### quotients -/

theorem sg_tdiv (s t : Bool) (a b : Int) (ha : 0 ≤ a) (hb : 0 ≤ b) : sg (!(s == t)) (a / b) = (sg s a).tdiv (sg t b) := by
 rw [← Int.tdiv_eq_ediv_of_nonneg ha]
 unfold sg; cases s <;> cases t <;> simp [Int.neg_tdiv, Int.tdiv_neg]

def rhI (A B : Int) : Int := if B < A % B * 2 ∨ (A % B * 2 = B ∧ A / B % 2 = 1) then A / B + 1 else A / B

def rz (x y : Int) : Int := sg (!(decide (x < 0) == decide (y < 0))) (rhI x.natAbs y.natAbs)

/-! ### values -/

def zeroV : GValue := ⟨0, 0, 0, ByteArray.empty, []⟩

def numV (kind z scale : Int) : GValue := if z.natAbs < 1000000000000000000 ∧ soundB ⟨kind, z, scale, ByteArray.empty, []⟩ = true then ⟨kind, z, scale, ByteArray.empty, []⟩ else zeroV

theorem size_plain (k z s : Int) : sizeV ⟨k, z, s, ByteArray.empty, []⟩ < 1000000000 := by
 simp only [sizeV, sizeL]
 have : ByteArray.empty.size = 0 := rfl
 omega

end Go.Proofs.YtdkmclmdemngfaaDoor
namespace Go.Proofs.YtdkmclmdemngfaaDoor
open Go Go.SX Go.SX.Cal Go.Lib
set_option linter.unusedVariables false
set_option linter.unusedSimpArgs false

theorem sound_plain {v : GValue} (h : soundB v = true) : plainOk v = true := by
 unfold soundB soundD at h
 by_cases hc : 256 < cnt v 0 ∨ plainOk v = false
 ·rw [if_pos hc] at h; cases h
 ·rw [not_or] at hc
  simpa using hc.2

theorem sound_bare {k n s : Int} : soundB ⟨k, n, s, ByteArray.empty, []⟩ = plainOk ⟨k, n, s, ByteArray.empty, []⟩ := by
 unfold soundB soundD
 have hc : ¬ 256 < cnt ⟨k, n, s, ByteArray.empty, []⟩ 0 := by unfold cnt; split <;> omega
 cases hp : plainOk ⟨k, n, s, ByteArray.empty, []⟩
 ·rw [if_pos (.inr rfl)]
 ·rw [if_neg (by simp [hc])]; rfl

theorem sound_small {v : GValue} (h : soundB v = true) : v.n.natAbs < 1000000000000000000 := by
 have hp := sound_plain h
 unfold plainOk at hp
 simp only at hp
 split at hp
 ·simp at hp; omega
 split at hp
 ·simp at hp; omega
 split at hp
 ·simp at hp; omega
 split at hp
 ·simp at hp; omega
 split at hp
 ·simp at hp; omega
 split at hp
 ·simp at hp; omega
 split at hp
 ·simp at hp; omega
 split at hp
 ·simp at hp; omega
 ·cases hp

theorem numV_eq {k z s : Int} : numV k z s = if plainOk ⟨k, z, s, ByteArray.empty, []⟩ = true then ⟨k, z, s, ByteArray.empty, []⟩ else zeroV := by
 unfold numV
 by_cases h : soundB ⟨k, z, s, ByteArray.empty, []⟩ = true
 ·rw [if_pos ⟨sound_small h, h⟩, if_pos (sound_plain h)]
 ·rw [if_neg (fun q => h q.2), if_neg (fun q => h (by rw [sound_bare]; exact q))]

theorem made_mk (kind scale : Int) (s : Bool) (A : Nat) (hA : A < 115792089237316195423570985008687907853269984665640564039457584007913129639936) : value_made kind (mkW s A) scale = some (numV kind (sgv s A) scale) := by
 unfold value_made value_made_j1
 rw [eta_w, number_mk s A hA, bnd_some']
 have habs : (sgv s A).natAbs = A := by unfold sgv; split <;> omega
 by_cases h : A < 9223372036854775808
 ·rw [if_pos h]
  simp only [Bool.not_true, ift_false]
  rw [vSound _ (size_plain _ _ _), bnd_some']
  unfold numV
  cases hs : soundB ⟨kind, sgv s A, scale, ByteArray.empty, []⟩
  ·rw [if_neg (by simp)]; rfl
  ·rw [if_pos ⟨sound_small hs, rfl⟩]; rfl
 ·rw [if_neg h]
  simp only [Bool.not_false, ift_true]
  unfold numV
  rw [if_neg (fun q => by have := q.1; omega)]; rfl

theorem rhI_rhn (A B : Nat) : rhI A B = (rhn A B : Int) := by
 unfold rhI rhn
 have e1 : (A : Int) % (B : Int) = ((A % B : Nat) : Int) := by push_cast; rfl
 have e2 : (A : Int) / (B : Int) = ((A / B : Nat) : Int) := by push_cast; rfl
 rw [e1, e2]
 generalize A % B = m
 generalize A / B = q
 by_cases h : B < m * 2 ∨ (m * 2 = B ∧ q % 2 = 1)
 ·rw [if_pos h, if_pos (by omega)]; push_cast; rfl
 ·rw [if_neg h, if_neg (by omega)]

theorem rz_sgv (x y : Int) : rz x y = sgv (!(decide (x < 0) == decide (y < 0))) (rhn x.natAbs y.natAbs) := by
 unfold rz; rw [rhI_rhn]; rfl

theorem scaled1 (k : Nat) (hk : k ≤ 60) : value_scaled 1 (k : Int) = some (mkW false (10 ^ k)) := by
 have h : (10 : Nat) ^ k ≤ 10 ^ 60 := Nat.pow_le_pow_right (by decide) hk
 have := scaled_mk 1 k (by decide) (by decide) (by omega) (by rw [show Int.natAbs 1 = 1 from rfl, Nat.one_mul]; exact Nat.lt_of_le_of_lt h (by decide))
 rw [show Int.natAbs 1 = 1 from rfl, Nat.one_mul] at this
 exact this

theorem exactly_loop {d : Nat} (q : GValue → GValue → Option Bool) (v : GValue) (hl : v.items.length < 1000000000) (hq : ∀ x ∈ v.items, q x x = some true) : ∀ (m k i : Nat), i + m = v.items.length → m < k → law1_exactly_l1 q v v k (i : Int) = some true := by
 intro m
 induction m with
 | zero =>
  intro k i hi hk
  obtain ⟨k, rfl⟩ : ∃ q, k = q + 1 := ⟨k - 1, by omega⟩
  rw [law1_exactly_l1, show decide ((i : Int) < (v.items.length : Int)) = false by simp; omega, ift_false]; rfl
 | succ m ih =>
  intro k i hi hk
  obtain ⟨k, rfl⟩ : ∃ q, k = q + 1 := ⟨k - 1, by omega⟩
  have hi' : i < v.items.length := by omega
  rw [law1_exactly_l1, dec_lt hi', ift_true, at_nat hi', bnd_some', bnd_some', hq _ (List.getElem_mem hi'), bnd_some', Bool.not_true, ift_false, wrap_succ hi' hl]
  exact ih k (i + 1) (by omega) (by omega)

theorem exactly_refl : ∀ (k : Nat) (v : GValue), sizeV v < k → sizeV v < 1000000000 → law1_exactly k v v = some true := by
 intro k
 induction k with
 | zero => intro v h; omega
 | succ k ih =>
  intro v hk hv
  have hl := sizeL_len v.items
  have he := sizeV_eq v
  rw [law1_exactly, show (v.kind != v.kind) = false by simp, show (v.n != v.n) = false by simp, show (v.scale != v.scale) = false by simp, show (!(v.s.toList == v.s.toList)) = false by simp, show ((v.items.length : Int) != (v.items.length : Int)) = false by simp]
  simp only [ift_false]
  unfold law1_exactly_j1
  rw [ift_false]
  refine exactly_loop (d := 0) _ v (by omega) (fun x hx => ?_) v.items.length BIG 0 (by omega) (by rw [big_val]; omega)
  have := sizeL_mem hx
  exact ih x (by omega) (by omega)

theorem exactly_same (v : GValue) (hv : sizeV v < 1000000000) : law1_exactly BIG v v = some true := exactly_refl BIG v (by rw [big_val]; omega) hv

end Go.Proofs.YtdkmclmdemngfaaDoor
namespace Go.Proofs.YtdkmclmdemngfaaDoor
open Go Go.SX Go.SX.Cal Go.Lib
set_option linter.unusedVariables false
set_option linter.unusedSimpArgs false

theorem sgv_tdiv (s t : Bool) (A B : Nat) : sgv (!(s == t)) (A / B) = (sgv s A).tdiv (sgv t B) := by
 have h := sg_tdiv s t (A : Int) (B : Int) (by omega) (by omega)
 unfold sgv
 unfold sg at h
 rw [← h]; push_cast; rfl

theorem sgv_tmod (s t : Bool) (A B : Nat) : sgv s (A % B) = (sgv s A).tmod (sgv t B) := by
 have e : ((A % B : Nat) : Int) = (A : Int).tmod (B : Int) := by rw [Int.tmod_eq_emod_of_nonneg (by omega)]; push_cast; rfl
 unfold sgv
 rw [e]
 cases s <;> cases t <;> simp [Int.neg_tmod, Int.tmod_neg]

theorem sgv_neg {s : Bool} {A : Nat} (h : A ≠ 0) : decide (sgv s A < 0) = s := by
 unfold sgv; cases s <;> simp <;> omega

theorem sgv_abs (s : Bool) (A : Nat) : (sgv s A).natAbs = A := by unfold sgv; split <;> omega

theorem sgv_zero (s : Bool) : sgv s 0 = 0 := by unfold sgv; cases s <;> rfl

theorem rhn_zero (B : Nat) (hB : 0 < B) : rhn 0 B = 0 := by
 unfold rhn
 rw [Nat.zero_mod, Nat.zero_div, if_neg (by omega)]

theorem sgv_rz (s t : Bool) (A B : Nat) (hB : 0 < B) : sgv (!(s == t)) (rhn A B) = rz (sgv s A) (sgv t B) := by
 rw [rz_sgv, sgv_abs, sgv_abs]
 by_cases h : A = 0
 ·subst h; rw [rhn_zero B hB, sgv_zero, sgv_zero]
 ·rw [sgv_neg h, sgv_neg (by omega)]

theorem sgv_scaled (n : Int) (k : Nat) : sgv (decide (n < 0)) (n.natAbs * 10 ^ k) = n * p10 k := by
 unfold sgv
 rw [p10_pow, Int.natCast_mul]
 by_cases h : n < 0
 ·rw [if_pos (by simpa using h), show ((n.natAbs : Nat) : Int) = -n by omega, Int.neg_mul, Int.neg_neg]
 ·rw [if_neg (by simpa using h), show ((n.natAbs : Nat) : Int) = n by omega]

theorem rz_one (x : Int) : rz x 1 = x := by
 rw [rz_sgv]
 have : rhn x.natAbs (Int.natAbs 1) = x.natAbs := by
  unfold rhn
  rw [show Int.natAbs 1 = 1 from rfl, Nat.mod_one, Nat.div_one, if_neg (by omega)]
 rw [this]
 unfold sgv
 by_cases h : x < 0
 ·simp [h]; omega
 ·simp [h]; omega

def compS (op : Int) (a b : GValue) (t : GType) : GValue :=
 if op = 1 then numV t.kind (a.n * p10 (max a.scale b.scale - a.scale).toNat + b.n * p10 (max a.scale b.scale - b.scale).toNat) t.scale
 else if op = 2 then numV t.kind (a.n * p10 (max a.scale b.scale - a.scale).toNat - b.n * p10 (max a.scale b.scale - b.scale).toNat) t.scale
 else if op = 3 then numV t.kind (rz (a.n * b.n) (p10 (a.scale + b.scale - t.scale).toNat)) t.scale
 else if b.n = 0 then zeroV
 else if op = 5 then numV t.kind ((a.n * p10 (max a.scale b.scale - a.scale).toNat).tmod (b.n * p10 (max a.scale b.scale - b.scale).toNat)) t.scale
 else if t.kind = 2 then numV t.kind ((a.n * p10 (max a.scale b.scale - a.scale).toNat).tdiv (b.n * p10 (max a.scale b.scale - b.scale).toNat)) t.scale
 else numV t.kind (rz (a.n * p10 (max a.scale b.scale - a.scale).toNat * p10 t.scale.toNat) (b.n * p10 (max a.scale b.scale - b.scale).toNat)) t.scale

structure Nums (op : Int) (a b : GValue) (t : GType) : Prop where
 an : a.n.natAbs < 1000000000000000000
 bn : b.n.natAbs < 1000000000000000000
 a0 : 0 ≤ a.scale
 a1 : a.scale ≤ 12
 b0 : 0 ≤ b.scale
 b1 : b.scale ≤ 12
 t0 : 0 ≤ t.scale
 t1 : t.scale ≤ 12
 ts : op = 1 ∨ op = 2 ∨ op = 5 → t.scale = max a.scale b.scale
 tm : op = 3 → t.scale = min (a.scale + b.scale) 12
 ti : op = 4 → t.kind = 2 → a.scale = 0 ∧ b.scale = 0 ∧ t.scale = 0

theorem pow_le (k : Nat) (h : k ≤ 12) : (10 : Nat) ^ k ≤ 1000000000000 := Nat.le_trans (Nat.pow_le_pow_right (by decide) h) (by decide)

theorem sc_lt {n : Int} {k : Nat} (h : n.natAbs < 1000000000000000000) (hk : k ≤ 12) : n.natAbs * 10 ^ k < 1000000000000000000000000000000 := by
 have h1 := pow_le k hk
 have h2 : n.natAbs * 10 ^ k ≤ 999999999999999999 * 1000000000000 := Nat.mul_le_mul (by omega) h1
 omega

theorem vcompute (op : Int) (a b : GValue) (t : GType) (ho : 1 ≤ op ∧ op ≤ 5) (h : Nums op a b t) : value_compute op a b t = some (compS op a b t) := by
 obtain ⟨an, bn, a0, a1, b0, b1, t0, t1, ts, tm, ti⟩ := h
 unfold value_compute compS
 have hm : (if b.scale > a.scale then b.scale else a.scale) = max a.scale b.scale := by split <;> omega
 rw [hm]
 obtain ⟨i, hi⟩ : ∃ i : Nat, max a.scale b.scale - a.scale = (i : Int) := ⟨(max a.scale b.scale - a.scale).toNat, by omega⟩
 obtain ⟨j, hj⟩ : ∃ j : Nat, max a.scale b.scale - b.scale = (j : Int) := ⟨(max a.scale b.scale - b.scale).toNat, by omega⟩
 obtain ⟨q, hq⟩ : ∃ q : Nat, t.scale = (q : Int) := ⟨t.scale.toNat, by omega⟩
 rw [hi, hj, hq]
 simp only [Int.toNat_natCast]
 rw [w64 (x := (i : Int)) (by omega) (by omega), w64 (x := (j : Int)) (by omega) (by omega), bnd_some']
 have ha := sc_lt an (k := i) (by omega)
 have hb := sc_lt bn (k := j) (by omega)
 rw [scaled_mk a.n i (by omega) (by omega) (by omega) (by omega), bnd_some', bnd_some', scaled_mk b.n j (by omega) (by omega) (by omega) (by omega), bnd_some']
 have va := sgv_scaled a.n i
 have vb := sgv_scaled b.n j
 generalize hs : decide (a.n < 0) = s at *
 generalize ht : decide (b.n < 0) = u at *
 generalize hA : a.n.natAbs * 10 ^ i = A at *
 generalize hB : b.n.natAbs * 10 ^ j = B at *
 rw [← va, ← vb]
 simp only [eta_w]
 by_cases h1 : op = 1
 ·subst h1
  rw [show ((1 : Int) == 1) = true from rfl, ift_true, if_pos rfl]
  obtain ⟨w, C, e1, e2, e3⟩ := plus_mk s u A B (by omega)
  rw [e1, bnd_some', made_mk _ _ _ _ (by omega), bnd_some', e2]
 rw [show (op == 1) = false by simpa using h1, ift_false, if_neg h1]
 by_cases h2 : op = 2
 ·subst h2
  rw [show ((2 : Int) == 2) = true from rfl, ift_true, if_pos rfl]
  obtain ⟨w, C, e1, e2, e3⟩ := minus_mk s u A B (by omega)
  rw [e1, bnd_some', made_mk _ _ _ _ (by omega), bnd_some', e2]
 rw [show (op == 2) = false by simpa using h2, ift_false, if_neg h2]
 by_cases h3 : op = 3
 ·subst h3
  rw [show ((3 : Int) == 3) = true from rfl, ift_true, if_pos rfl]
  obtain ⟨w, e1, e2⟩ := product_mk a.n b.n (by omega) (by omega) (by omega) (by omega)
  have hP : a.n.natAbs * b.n.natAbs ≤ 999999999999999999 * 999999999999999999 := Nat.mul_le_mul (by omega) (by omega)
  rw [e1, bnd_some']
  unfold value_rescaled
  simp only [eta_w]
  have htm := tm rfl
  rw [w64 (x := a.scale + b.scale) (by omega) (by omega)]
  by_cases hc : a.scale + b.scale ≤ 12
  ·have : a.scale + b.scale = (q : Int) := by omega
   rw [this, show decide ((q : Int) ≤ (q : Int)) = true by simp, ift_true, w64 (by omega) (by omega), show (q : Int) - (q : Int) = ((0 : Nat) : Int) by omega, shifted_mk _ _ 0 (by omega) (by rw [Nat.pow_zero]; omega), bnd_some', bnd_some', made_mk _ _ _ _ (by rw [Nat.pow_zero]; omega), bnd_some', Nat.pow_zero, Nat.mul_one, e2, Int.toNat_natCast, show p10 0 = 1 from rfl, rz_one]
  ·obtain ⟨d, hd⟩ : ∃ d : Nat, a.scale + b.scale - (q : Int) = (d : Int) := ⟨(a.scale + b.scale - q).toNat, by omega⟩
   have hd12 : d ≤ 12 := by omega
   have hpd := pow_le d hd12
   have hp0 : 0 < 10 ^ d := Nat.pow_pos (by decide)
   rw [show decide (a.scale + b.scale ≤ (q : Int)) = false by simp; omega, ift_false, w64 (by omega) (by omega), hd, scaled1 d (by omega), bnd_some', rounded_mk _ _ _ _ (by omega) hp0 (by omega), bnd_some', bnd_some']
   have hr := rhn_le (a.n.natAbs * b.n.natAbs) (10 ^ d)
   have hr2 := Nat.div_le_self (a.n.natAbs * b.n.natAbs) (10 ^ d)
   rw [made_mk _ _ _ _ (by omega), bnd_some', sgv_rz _ _ _ _ hp0, e2, Int.toNat_natCast]
   congr 2
   unfold sgv; rw [if_neg (by simp), p10_pow]
 rw [show (op == 3) = false by simpa using h3, ift_false, if_neg h3, zero_mk _ _ (by omega), bnd_some']
 have hBz : B = 0 ↔ b.n = 0 := by
  rw [← hB]
  constructor
  ·intro hz
   rcases Nat.mul_eq_zero.1 hz with hz | hz
   ·omega
   ·have : 0 < 10 ^ j := Nat.pow_pos (by decide)
    omega
  ·intro hz; rw [hz]; simp
 by_cases hz : b.n = 0
 ·rw [if_pos hz, show decide (B = 0) = true by simpa using hBz.2 hz, ift_true]; rfl
 have hB0 : 0 < B := by
  have : ¬ B = 0 := fun e => hz (hBz.1 e)
  omega
 rw [if_neg hz, show decide (B = 0) = false by simp; omega, ift_false, quo_mk s u A B (by omega) hB0 (by omega), bnd_some']
 simp only
 have hd := Nat.div_le_self A B
 have hmod := Nat.mod_lt A hB0
 by_cases h5 : op = 5
 ·subst h5
  rw [show ((5 : Int) == 5) = true from rfl, ift_true, if_pos rfl, made_mk _ _ _ _ (by omega), bnd_some', sgv_tmod s u]
 rw [show (op == 5) = false by simpa using h5, ift_false, if_neg h5]
 by_cases hk : t.kind = 2
 ·rw [if_pos hk, show (t.kind == 2) = true by simp [hk], ift_true, made_mk _ _ _ _ (by omega), bnd_some', sgv_tdiv]
 rw [if_neg hk, show (t.kind == 2) = false by simpa using hk, ift_false]
 have hpq := pow_le q (by omega)
 have hAq : A * 10 ^ q ≤ 1000000000000000000000000000000 * 1000000000000 := Nat.mul_le_mul (by omega) hpq
 rw [shifted_mk _ _ q (by omega) (by omega), bnd_some', rounded_mk _ _ _ _ (by omega) hB0 (by omega), bnd_some']
 have hr := rhn_le (A * 10 ^ q) B
 have hr2 := Nat.div_le_self (A * 10 ^ q) B
 rw [made_mk _ _ _ _ (by omega), bnd_some', sgv_rz _ _ _ _ hB0]
 congr 2
 unfold sgv
 rw [p10_pow]
 split
 ·rw [Int.neg_mul]; push_cast; rfl
 ·push_cast; rfl

end Go.Proofs.YtdkmclmdemngfaaDoor
namespace Go.Proofs.YtdkmclmdemngfaaDoor
open Go Go.SX Go.SX.Cal Go.Lib
set_option linter.unusedVariables false
set_option linter.unusedSimpArgs false

def small (b : Nat) : Bool := decide (97 ≤ b) && decide (b ≤ 122)
def other (b : Nat) : Bool := b == 95 || (decide (48 ≤ b) && decide (b ≤ 57))
def good (b : Nat) : Bool := small b || other b

theorem name1_eq (n : Nat) : value_Name_1 (Int.ofNat n) = some (!good n) := by
 unfold value_Name_1 value_Name_1_j1
 simp only [ift_ite, decide_eq_true_eq, Int.ofNat_eq_natCast]
 repeat' split
 all_goals (rw [Option.some.injEq, Bool.eq_iff_iff]; simp [good, small, other]; omega)

def bad (s : ByteArray) (i : Nat) : Bool := !good (byt s i)

theorem indexFunc_eq (s : ByteArray) : ∀ k i, i ≤ s.size → s.size - i < k → ∃ r, strings_indexFunc_of_value_Name_1_l1 s true k i = some r ∧ (decide (0 ≤ r) = (first (bad s) i s.size).isSome) := by
 intro k
 induction k with
 | zero => intro i _ h; omega
 | succ k ih =>
  intro i hi hk
  rw [strings_indexFunc_of_value_Name_1_l1]
  by_cases h : i = s.size
  ·subst h
   rw [first_end]
   simp only [Nat.lt_irrefl, decide_false, ift_false]
   exact ⟨-1, rfl, rfl⟩
  ·have hlt : i < s.size := by omega
   simp only [hlt, decide_true, ift_true, name1_eq, bnd_eq]
   rw [first_step hlt]
   by_cases hb : byt s i < 128
   ·rw [decode_lo s i hlt hb]
    simp only [bad]
    by_cases hg : good (byt s i) = true
    ·simp only [hg, Bool.not_true, ift_ite]
     obtain ⟨r, h1, h2⟩ := ih (i + 1) (by omega) (by omega)
     exact ⟨r, by simpa using h1, by simpa [bad] using h2⟩
    ·simp only [hg, Bool.not_false, ift_ite]
     exact ⟨_, rfl, by simp⟩
   ·have h1 := decode_hi s i hlt hb
    have g1 : good (Utf8.decode s i).1 = false := by
     generalize (Utf8.decode s i).1 = x at h1
     simp [good, small, other]; omega
    have g2 : bad s i = true := by
     simp [bad, good, small, other]; omega
    simp only [g1, g2, Bool.not_false, ift_ite]
    exact ⟨_, rfl, by simp⟩

def isName (s : ByteArray) : Bool := decide (1 ≤ s.size) && decide (s.size ≤ 24) && small (byt s 0) && (first (bad s) 0 s.size).isNone

theorem vName (s : ByteArray) (hs : s.size < 1000000000) : value_Name s = some (isName s) := by
 obtain ⟨r, h1, h2⟩ := indexFunc_eq s BIG 0 (Nat.zero_le _) (by rw [big_val]; omega)
 unfold value_Name value_Name_j1 strings_ContainsFunc_of_value_Name_1 strings_IndexFunc_of_value_Name_1 strings_indexFunc_of_value_Name_1
 rw [h1, size_zero]
 simp only [bnd_eq, h2, ift_ite]
 by_cases z0 : s.size = 0
 ·simp [z0, isName]
 ·by_cases z1 : 24 < s.size
  ·have : ¬ s.size ≤ 24 := by omega
   simp [z0, z1, isName, this, show (24 : Int) < (s.size : Int) by omega]
  ·have hz : ¬ (24 : Int) < (s.size : Int) := by omega
   have hb : ((s.data.toList.getD (0 : Int).toNat 0).toNat : Int) = (byt s 0 : Int) := rfl
   simp only [z0, decide_false, hz, Bool.false_eq_true, if_false, hb]
   rw [grd_pos (by omega), grd_pos (by omega)]
   simp only [decide_eq_true_eq]
   have : s.size ≤ 24 := by omega
   by_cases q1 : byt s 0 < 97
   ·have : ¬ 97 ≤ byt s 0 := by omega
    simp [show (byt s 0 : Int) < 97 by omega, isName, small, this]
   ·by_cases q2 : 122 < byt s 0
    ·have : ¬ byt s 0 ≤ 122 := by omega
     simp [show ¬ (byt s 0 : Int) < 97 by omega, show (122 : Int) < (byt s 0 : Int) by omega, isName, small, this]
    ·simp [show ¬ (byt s 0 : Int) < 97 by omega, show ¬ (122 : Int) < (byt s 0 : Int) by omega, isName, small, show 1 ≤ s.size by omega, this, show 97 ≤ byt s 0 by omega, show byt s 0 ≤ 122 by omega]

def rbad (s : ByteArray) (i : Nat) : Bool := !small (byt s i) && (i == 0 || !other (byt s i))

theorem rname_step (s : ByteArray) (hs : s.size < 1000000000) (k i : Nat) (hi : i < s.size) : ref1_Name_l1 s (k + 1) (i : Int) = if rbad s i = true then some false else ref1_Name_l1 s k ((i + 1 : Nat) : Int) := by
 rw [ref1_Name_l1, ← ift_ite]
 have hb : ((s.data.toList.getD (i : Int).toNat 0).toNat : Int) = (byt s i : Int) := rfl
 have hw : IntKind.i64.wrap ((i : Int) + 1) = ((i + 1 : Nat) : Int) := by rw [w64 (by omega) (by omega)]; omega
 have hg : 0 ≤ (i : Int) ∧ (i : Int) < (s.size : Int) := by omega
 rw [show decide ((i : Int) < (s.size : Int)) = true by simp [hg.2], ift_true]
 simp only [ref1_Name_j2, ref1_Name_j3, ref1_Name_j4, hb, hw, bnd_eq, grd_pos hg]
 have e1 : ((byt s i : Int) == 95) = (byt s i == 95) := by rw [Bool.eq_iff_iff]; simp; omega
 have e2 : (decide ((97 : Int) ≤ byt s i)) = decide (97 ≤ byt s i) := by rw [Bool.eq_iff_iff]; simp; omega
 have e3 : (decide ((byt s i : Int) ≤ 122)) = decide (byt s i ≤ 122) := by rw [Bool.eq_iff_iff]; simp; omega
 have e4 : (decide ((48 : Int) ≤ byt s i)) = decide (48 ≤ byt s i) := by rw [Bool.eq_iff_iff]; simp; omega
 have e5 : (decide ((byt s i : Int) ≤ 57)) = decide (byt s i ≤ 57) := by rw [Bool.eq_iff_iff]; simp; omega
 have e6 : ((i : Int) == 0) = (i == 0) := by rw [Bool.eq_iff_iff]; simp
 simp only [e1, e2, e3, e4, e5, e6, rbad, small, other]
 generalize hq : ref1_Name_l1 s k ((i + 1 : Nat) : Int) = q
 generalize (byt s i == 95) = b1
 generalize decide (97 ≤ byt s i) = b2
 generalize decide (byt s i ≤ 122) = b3
 generalize decide (48 ≤ byt s i) = b4
 generalize decide (byt s i ≤ 57) = b5
 generalize (i == 0) = b6
 cases b1 <;> cases b2 <;> cases b3 <;> cases b4 <;> cases b5 <;> cases b6 <;> rfl

theorem rName (s : ByteArray) (hs : s.size < 1000000000) : ref1_Name s = some (isName s) := by
 have hl := search (f := fun k i => ref1_Name_l1 s k (i : Int)) (n := s.size) (P := rbad s) (A := fun _ => some false) (B := some true) (fun k i hi => rname_step s hs k i hi)
  (fun k => by rw [ref1_Name_l1]; simp only [Int.lt_irrefl, decide_false, ift_false]; rfl) BIG 0 (Nat.zero_le _) (by rw [big_val]; omega)
 have hl : ref1_Name_l1 s BIG (0 : Int) = _ := hl
 unfold ref1_Name ref1_Name_j1
 rw [hl]
 simp only [ift_ite]
 by_cases z0 : s.size = 0
 ·simp [z0, isName]
 ·by_cases z1 : 24 < s.size
  ·have : ¬ s.size ≤ 24 := by omega
   simp [z0, z1, isName, this, show (24 : Int) < (s.size : Int) by omega]
  ·have hz : ¬ (24 : Int) < (s.size : Int) := by omega
   have hz2 : ¬ (s.size : Int) < 1 := by omega
   simp only [hz, hz2, decide_false, Bool.false_eq_true, if_false]
   have e : (first (rbad s) 0 s.size).isNone = (small (byt s 0) && (first (bad s) 0 s.size).isNone) := by
    rw [Bool.eq_iff_iff, Bool.and_eq_true, Option.isNone_iff_eq_none, Option.isNone_iff_eq_none, first_none, first_none]
    constructor
    ·intro h
     have h0 := h 0 (Nat.le_refl _) (by omega)
     simp only [rbad, beq_self_eq_true, Bool.true_or, Bool.and_true] at h0
     have h0' : small (byt s 0) = true := by simpa using h0
     refine ⟨h0', fun j _ hj => ?_⟩
     have h1 := h j (Nat.zero_le _) hj
     simp only [rbad, bad, good] at h1 ⊢
     cases hs : small (byt s j) <;> cases ho : other (byt s j) <;> simp_all
    ·rintro ⟨h0, h⟩ j _ hj
     have h1 := h j (Nat.zero_le _) hj
     simp only [rbad, bad, good] at h1 ⊢
     by_cases hj0 : j = 0
     ·subst hj0; simp [h0]
     ·cases hs : small (byt s j) <;> cases ho : other (byt s j) <;> simp_all
   have : (first (rbad s) 0 s.size).elim (some true) (fun _ => some false) = some ((first (rbad s) 0 s.size).isNone) := by cases first (rbad s) 0 s.size <;> rfl
   rw [this, e]
   simp [isName, show 1 ≤ s.size by omega, show s.size ≤ 24 by omega]

end Go.Proofs.YtdkmclmdemngfaaDoor
namespace Go.Proofs.YtdkmclmdemngfaaDoor
open Go Go.SX Go.SX.Cal Go.Lib
set_option linter.unusedVariables false
set_option linter.unusedSimpArgs false

def fnm (fs : List GField) (i : Nat) : ByteArray := (fs[i]?.map (·.name)).getD ByteArray.empty

theorem fnm_at {fs : List GField} {i : Nat} (h : i < fs.length) : fnm fs i = fs[i].name := by simp [fnm, h]

def noName (fs : List GField) (i : Nat) : Bool := !isName (fnm fs i)
def eqN (fs : List GField) (i j : Nat) : Bool := (fnm fs j).toList == (fnm fs i).toList
def twin (fs : List GField) (i : Nat) : Bool := (first (eqN fs i) 0 i).isSome
def badN (fs : List GField) : Bool := (first (noName fs) 0 fs.length).isSome
def dupN (fs : List GField) : Bool := (first (twin fs) 0 fs.length).isSome

structure FsOk (fs : List GField) : Prop where
 len : fs.length < 1000000000
 nam : ∀ f ∈ fs, f.name.size < 1000000000

theorem fsOk_of {fs : List GField} (h : sizeF fs < 1000000000) : FsOk fs :=
 ⟨by have := sizeF_len fs; omega, fun f hf => by have := sizeF_mem hf; have := sizeFd_eq f; omega⟩

theorem eta_f : ∀ f : GField, FieldP.mk f.id f.name f.need (GType.mk f.type.kind f.type.scale f.type.fields) = f
 | ⟨_, _, _, ⟨_, _, _⟩⟩ => rfl
theorem contains1 {fs : List GField} (ho : FsOk fs) : slices_ContainsFunc_api_Field_api_Field_of_value_fields_1 fs = some (badN fs) := by
 have hl := search (f := fun k i => slices_IndexFunc_api_Field_api_Field_of_value_fields_1_l1 fs k (i : Int)) (n := fs.length) (P := noName fs) (A := fun i => some (i : Int)) (B := some (-1)) (fun k i hi => by
   show slices_IndexFunc_api_Field_api_Field_of_value_fields_1_l1 fs (k + 1) (i : Int) = _
   rw [slices_IndexFunc_api_Field_api_Field_of_value_fields_1_l1, dec_lt hi, ift_true, at_nat hi, bnd_eq, value_fields_1, vName _ (ho.nam _ (List.getElem_mem hi)), wrap_succ hi ho.len]
   simp only [bnd_eq, ift_ite, noName, fnm_at hi])
  (fun k => by rw [slices_IndexFunc_api_Field_api_Field_of_value_fields_1_l1]; simp only [Int.lt_irrefl, decide_false, ift_false]; rfl) BIG 0 (Nat.zero_le _) (by rw [big_val]; have := ho.len; omega)
 have hl : slices_IndexFunc_api_Field_api_Field_of_value_fields_1_l1 fs BIG (0 : Int) = _ := hl
 unfold slices_ContainsFunc_api_Field_api_Field_of_value_fields_1 slices_IndexFunc_api_Field_api_Field_of_value_fields_1
 rw [hl]
 unfold badN
 cases first (noName fs) 0 fs.length with
 | none => rfl
 | some j => simp [bnd_eq]

theorem contains2 {fs : List GField} (ho : FsOk fs) {i : Nat} (hi : i < fs.length) : slices_ContainsFunc_api_Field_api_Field_of_value_fields_2 ((fs.drop (0 : Int).toNat).take ((i : Int).toNat - (0 : Int).toNat)) fs[i] = some (twin fs i, fs[i]) := by
 have ep : (fs.drop (0 : Int).toNat).take ((i : Int).toNat - (0 : Int).toNat) = fs.take i := by simp
 rw [ep]
 have hlen : (fs.take i).length = i := by simp; omega
 have hl := search (f := fun k j => slices_IndexFunc_api_Field_api_Field_of_value_fields_2_l1 (fs.take i) k fs[i].id fs[i].name fs[i].need fs[i].type.kind fs[i].type.scale fs[i].type.fields (j : Int)) (n := i) (P := eqN fs i) (A := fun j => some ((j : Int), fs[i])) (B := some (-1, fs[i])) (fun k j hj => by
   have hj' : j < (fs.take i).length := by rw [hlen]; exact hj
   have hjf : j < fs.length := by omega
   show slices_IndexFunc_api_Field_api_Field_of_value_fields_2_l1 (fs.take i) (k + 1) _ _ _ _ _ _ (j : Int) = _
   rw [slices_IndexFunc_api_Field_api_Field_of_value_fields_2_l1, dec_lt hj', ift_true, at_nat hj', bnd_eq, value_fields_2, wrap_succ hj (by have := ho.len; omega)]
   simp only [bnd_eq, ift_ite, eqN, fnm_at hi, fnm_at hjf, List.getElem_take, eta_f])
  (fun k => by
   show slices_IndexFunc_api_Field_api_Field_of_value_fields_2_l1 (fs.take i) (k + 1) _ _ _ _ _ _ (i : Int) = _
   rw [slices_IndexFunc_api_Field_api_Field_of_value_fields_2_l1]; simp only [hlen, Int.lt_irrefl, decide_false, ift_false, slices_IndexFunc_api_Field_api_Field_of_value_fields_2_j1, eta_f]) BIG 0 (Nat.zero_le _) (by rw [big_val]; have := ho.len; omega)
 have hl : slices_IndexFunc_api_Field_api_Field_of_value_fields_2_l1 (fs.take i) BIG _ _ _ _ _ _ (0 : Int) = _ := hl
 unfold slices_ContainsFunc_api_Field_api_Field_of_value_fields_2 slices_IndexFunc_api_Field_api_Field_of_value_fields_2
 rw [hl]
 unfold twin
 cases first (eqN fs i) 0 i with
 | none => rfl
 | some j => simp [bnd_eq]

theorem fields_loop {t : GType} (ho : FsOk t.fields) : value_fields_l1 t BIG (0 : Int) = some (if dupN t.fields = true then 5 else 0) := by
 have hl := search (f := fun k i => value_fields_l1 t k (i : Int)) (n := t.fields.length) (P := twin t.fields) (A := fun _ => some 5) (B := some 0) (fun k i hi => by
   show value_fields_l1 t (k + 1) (i : Int) = _
   rw [value_fields_l1, dec_lt hi, ift_true, at_nat hi, bnd_eq, grd_pos (by omega), contains2 ho hi, wrap_succ hi ho.len]
   simp only [bnd_eq, ift_ite])
  (fun k => by rw [value_fields_l1]; simp only [Int.lt_irrefl, decide_false, ift_false]; rfl) BIG 0 (Nat.zero_le _) (by rw [big_val]; have := ho.len; omega)
 have hl : value_fields_l1 t BIG (0 : Int) = _ := hl
 rw [hl]
 unfold dupN
 cases first (twin t.fields) 0 t.fields.length <;> rfl

theorem shape_l3 {t : GType} (ho : FsOk t.fields) (rec2 : Int → Option Int) {i : Nat} (hi : i < t.fields.length) : ref1_shape_l3 rec2 t (i : Int) BIG (0 : Int) = if twin t.fields i = true then some 5 else rec2 ((i + 1 : Nat) : Int) := by
 have hl := search (f := fun k j => ref1_shape_l3 rec2 t (i : Int) k (j : Int)) (n := i) (P := eqN t.fields i) (A := fun j => some 5) (B := rec2 ((i + 1 : Nat) : Int)) (fun k j hj => by
   have hjf : j < t.fields.length := by omega
   show ref1_shape_l3 rec2 t (i : Int) (k + 1) (j : Int) = _
   rw [ref1_shape_l3, dec_lt hj, ift_true, at_nat hjf, at_nat hi, wrap_succ hj (by have := ho.len; omega)]
   simp only [bnd_eq, ift_ite, eqN, fnm_at hi, fnm_at hjf])
  (fun k => by
   show ref1_shape_l3 rec2 t (i : Int) (k + 1) (i : Int) = _
   rw [ref1_shape_l3]; simp only [Int.lt_irrefl, decide_false, ift_false, ref1_shape_j5]; rw [wrap_succ hi ho.len]) BIG 0 (Nat.zero_le _) (by rw [big_val]; have := ho.len; omega)
 have hl : ref1_shape_l3 rec2 t (i : Int) BIG (0 : Int) = _ := hl
 rw [hl]
 unfold twin
 cases first (eqN t.fields i) 0 i <;> simp

theorem shape_l2 {t : GType} (ho : FsOk t.fields) : ref1_shape_l2 t BIG (0 : Int) = some (if dupN t.fields = true then 5 else 0) := by
 have hl := search (f := fun k i => ref1_shape_l2 t k (i : Int)) (n := t.fields.length) (P := twin t.fields) (A := fun _ => some 5) (B := some 0) (fun k i hi => by
   show ref1_shape_l2 t (k + 1) (i : Int) = _
   rw [ref1_shape_l2, dec_lt hi, ift_true, shape_l3 ho _ hi])
  (fun k => by rw [ref1_shape_l2]; simp only [Int.lt_irrefl, decide_false, ift_false]; rfl) BIG 0 (Nat.zero_le _) (by rw [big_val]; have := ho.len; omega)
 have hl : ref1_shape_l2 t BIG (0 : Int) = _ := hl
 rw [hl]
 unfold dupN
 cases first (twin t.fields) 0 t.fields.length <;> rfl

theorem shape_l1 {t : GType} (ho : FsOk t.fields) : ref1_shape_l1 t BIG (0 : Int) = some (if badN t.fields = true then 4 else if dupN t.fields = true then 5 else 0) := by
 have hl := search (f := fun k i => ref1_shape_l1 t k (i : Int)) (n := t.fields.length) (P := noName t.fields) (A := fun _ => some 4) (B := some (if dupN t.fields = true then 5 else 0)) (fun k i hi => by
   show ref1_shape_l1 t (k + 1) (i : Int) = _
   rw [ref1_shape_l1, dec_lt hi, ift_true, at_nat hi, bnd_eq, rName _ (ho.nam _ (List.getElem_mem hi)), wrap_succ hi ho.len]
   simp only [bnd_eq, ift_ite, noName, fnm_at hi])
  (fun k => by rw [ref1_shape_l1]; simp only [Int.lt_irrefl, decide_false, ift_false, ref1_shape_j4]; exact shape_l2 ho) BIG 0 (Nat.zero_le _) (by rw [big_val]; have := ho.len; omega)
 have hl : ref1_shape_l1 t BIG (0 : Int) = _ := hl
 rw [hl]
 unfold badN
 cases first (noName t.fields) 0 t.fields.length <;> rfl

def vf (t : GType) : Int :=
 if t.kind = 6 then (if t.fields.length ≠ 1 ∨ (fnm t.fields 0).size ≠ 0 then 1 else 0)
 else if t.kind ≠ 7 then (if 0 < t.fields.length then 1 else 0)
 else if t.fields.length = 0 then 1 else if badN t.fields = true then 4 else if dupN t.fields = true then 5 else 0

def scBad (t : GType) : Prop := t.scale ≠ 0 ∧ (t.kind ≠ 3 ∨ t.scale < 0 ∨ 12 < t.scale)
instance (t : GType) : Decidable (scBad t) := by unfold scBad; infer_instance

def shp (t : GType) : Int := if t.kind < 1 ∨ 7 < t.kind then 3 else if scBad t then 1 else vf t

theorem vFields {t : GType} (ho : FsOk t.fields) : value_fields t = some (vf t) := by
 unfold value_fields value_fields_j1 vf
 rw [contains1 ho, fields_loop ho]
 simp only [bnd_eq, ift_ite]
 by_cases h6 : t.kind = 6
 ·simp only [h6, beq_self_eq_true, if_true]
  by_cases hl : t.fields.length = 1
  ·have : (0 : Nat) < t.fields.length := by omega
   rw [show at? t.fields (0 : Int) = some t.fields[0] from at_nat (i := 0) this]
   simp only [hl, bnd_eq, size_zero, fnm_at this]
   by_cases hz : t.fields[0].name.size = 0 <;> simp [hz]
  ·simp [hl, show ((t.fields.length : Int) = 1) = False from eq_false (by omega)]
 ·by_cases h7 : t.kind = 7
  ·simp [h7]
   by_cases hl : t.fields = []
   ·simp [hl]
   ·simp [hl]
    by_cases hb : badN t.fields = true
    ·simp [hb]
    ·simp [hb]
  ·simp [h6, h7]
   by_cases hl : 0 < t.fields.length
   ·simp [hl]
   ·simp [hl]

theorem rShape {t : GType} (ho : FsOk t.fields) : ref1_shape t = some (shp t) := by
 have hj3 : ∀ x, ref1_shape_j3 t x = if x = true then some 1 else if t.kind ≠ 7 then some 0 else some (if badN t.fields = true then 4 else if dupN t.fields = true then 5 else 0) := by
  intro x
  unfold ref1_shape_j3
  rw [shape_l1 ho]
  cases x <;> simp [ift_ite]
 have hleaf : ref1_Leaf t.kind = some (decide (t.kind ≠ 6 ∧ t.kind ≠ 7)) := by
  unfold ref1_Leaf ref1_Leaf_j1
  by_cases h6 : t.kind = 6 <;> by_cases h7 : t.kind = 7 <;> simp [h6, h7, ift_ite]
 have hj1 : ∀ x, ref1_shape_j1 t x = if x = true then some 1 else some (vf t) := by
  intro x
  cases x with
  | true => rfl
  | false =>
   unfold ref1_shape_j1 ref1_shape_j2 vf
   rw [hleaf]
   simp only [ift_ite, bnd_eq, hj3]
   by_cases h6 : t.kind = 6
   ·simp only [h6, beq_self_eq_true, if_true]
    by_cases hl : t.fields.length = 1
    ·have : (0 : Nat) < t.fields.length := by omega
     rw [show at? t.fields (0 : Int) = some t.fields[0] from at_nat (i := 0) this]
     simp only [hl, bnd_eq, size_zero, fnm_at this]
     by_cases hz : t.fields[0].name.size = 0 <;> simp [hz]
    ·simp [hl, show ((t.fields.length : Int) = 1) = False from eq_false (by omega)]
   ·by_cases h7 : t.kind = 7
    ·simp [h7]
     by_cases hl : t.fields = []
     ·simp [hl]
     ·simp [hl]
    ·simp [h6, h7]
     by_cases hl : 0 < t.fields.length
     ·simp [hl]
     ·simp [hl]
 unfold ref1_shape shp ref1_within ref1_within_j1
 simp only [ift_ite, hj1, bnd_eq]
 by_cases a1 : t.kind < 1
 ·simp [a1, show ¬ (1 : Int) ≤ t.kind by omega, bnd_eq]
 ·by_cases a2 : 7 < t.kind
  ·simp [a2, show (1 : Int) ≤ t.kind by omega, show ¬ t.kind ≤ 7 by omega, bnd_eq]
  ·simp only [a1, a2, show (1 : Int) ≤ t.kind by omega, show t.kind ≤ 7 by omega, decide_true, or_self, if_false, if_true, Bool.not_true, bnd_eq]
   unfold scBad
   by_cases h3 : t.kind = 3
   ·by_cases b1 : t.scale < 0
    ·simp [h3, b1, show ¬ (0 : Int) ≤ t.scale by omega, show t.scale ≠ 0 by omega, bnd_eq]
    ·by_cases b2 : 12 < t.scale
     ·simp [h3, b1, b2, show (0 : Int) ≤ t.scale by omega, show ¬ t.scale ≤ 12 by omega, show t.scale ≠ 0 by omega, bnd_eq]
     ·simp [h3, b1, b2, show (0 : Int) ≤ t.scale by omega, show t.scale ≤ 12 by omega, bnd_eq]
   ·by_cases b0 : t.scale = 0 <;> simp [h3, b0]

end Go.Proofs.YtdkmclmdemngfaaDoor
namespace Go.Proofs.YtdkmclmdemngfaaDoor
open Go Go.SX Go.SX.Cal Go.Lib
set_option linter.unusedVariables false
set_option linter.unusedSimpArgs false

inductive V : GType → Prop where
 | mk (t : GType) (h1 : shp t = 0) (h2 : ∀ f, f ∈ t.fields → V f.type) : V t

theorem leafV (t : GType) : value_leaf t = some (decide (t.kind ≠ 6 ∧ t.kind ≠ 7)) := by
 unfold value_leaf value_leaf_j1
 by_cases h6 : t.kind = 6 <;> by_cases h7 : t.kind = 7 <;> simp [h6, h7, ift_ite]

theorem leafR (k : Int) : ref1_Leaf k = some (decide (k ≠ 6 ∧ k ≠ 7)) := by
 unfold ref1_Leaf ref1_Leaf_j1
 by_cases h6 : k = 6 <;> by_cases h7 : k = 7 <;> simp [h6, h7, ift_ite]

theorem checkJ2 {t : GType} (ho : FsOk t.fields) (q : GType → Int → GChecker → Option (Int × GChecker)) (l z : Int) :
  value_checker_check_j2 q t l z = if shp t ≠ 0 then some (shp t, ⟨z⟩) else value_checker_check_l1 q t l BIG z 0 := by
 have hj4 : ∀ x, value_checker_check_j4 q t l z x = if x = true then some (1, ⟨z⟩) else if vf t ≠ 0 then some (vf t, ⟨z⟩) else value_checker_check_l1 q t l BIG z 0 := by
  intro x
  unfold value_checker_check_j4
  rw [vFields ho]
  cases x <;> simp [ift_ite, bnd_eq]
 unfold value_checker_check_j2 value_checker_check_j3 shp
 simp only [ift_ite, hj4]
 by_cases a1 : t.kind < 1
 ·simp [a1]
 ·by_cases a2 : 7 < t.kind
  ·simp [a1, a2]
  ·simp only [a1, a2, decide_false, or_self, if_false, Bool.false_eq_true]
   unfold scBad
   by_cases b0 : t.scale = 0
   ·simp [b0]
   ·by_cases h3 : t.kind = 3
    ·by_cases b1 : t.scale < 0
     ·simp [b0, h3, b1]
     ·by_cases b2 : 12 < t.scale
      ·simp [b0, h3, b1, b2]
      ·simp [b0, h3, b1, b2]
    ·simp [b0, h3]

theorem checkR1 {t : GType} (ho : FsOk t.fields) (q : GType → Int → Int → Option (Int × Int)) (l z : Int) :
  ref1_checkType_j1 q t l z = if shp t ≠ 0 then some (shp t, z) else ref1_checkType_l1 q t l BIG z 0 := by
 unfold ref1_checkType_j1
 rw [rShape ho]
 simp [ift_ite, bnd_eq]

theorem V_of {t : GType} (h : shp t = 0) (hf : ∀ f ∈ t.fields, V f.type) : V t := .mk t h hf

theorem check_loop {t : GType} (ho : FsOk t.fields) (l : Int) (hl0 : -10 ≤ l) (hl1 : l ≤ 10) (q1 : GType → Int → GChecker → Option (Int × GChecker)) (q2 : GType → Int → Int → Option (Int × Int))
  (hq : ∀ f ∈ t.fields, ∀ n : Int, 0 ≤ n → n ≤ 40 → ∃ e m, q1 f.type (l + 1) ⟨n⟩ = some (e, ⟨m⟩) ∧ q2 f.type (l + 1) n = some (e, m) ∧ 0 ≤ m ∧ m ≤ 40 ∧ (e = 0 → V f.type)) :
  ∀ (kk i : Nat) (n : Int), i ≤ t.fields.length → t.fields.length - i < kk → 0 ≤ n → n ≤ 40 →
   ∃ e m, value_checker_check_l1 q1 t l kk n (i : Int) = some (e, ⟨m⟩) ∧ ref1_checkType_l1 q2 t l kk n (i : Int) = some (e, m) ∧ 0 ≤ m ∧ m ≤ 40 ∧ (e = 0 → ∀ j, i ≤ j → ∀ h : j < t.fields.length, V t.fields[j].type) := by
 intro kk
 induction kk with
 | zero => intro i n _ h; omega
 | succ kk ih =>
  intro i n hi hk n0 n1
  rw [value_checker_check_l1, ref1_checkType_l1]
  by_cases h : i = t.fields.length
  ·subst h
   simp only [Int.lt_irrefl, decide_false, ift_false]
   exact ⟨0, n, rfl, rfl, n0, n1, fun _ j h1 h2 => by omega⟩
  ·have hlt : i < t.fields.length := by omega
   rw [dec_lt hlt, ift_true, ift_true, at_nat hlt, bnd_eq, bnd_eq, w64 (x := l + 1) (by omega) (by omega), wrap_succ hlt ho.len]
   obtain ⟨e, m, h1, h2, h3, h4, h5⟩ := hq _ (List.getElem_mem hlt) n n0 n1
   rw [h1, h2]
   simp only [bnd_eq, ift_ite]
   by_cases he : e = 0
   ·obtain ⟨e', m', g1, g2, g3, g4, g5⟩ := ih (i + 1) m (by omega) (by omega) h3 h4
    refine ⟨e', m', by simpa [he] using g1, by simpa [he] using g2, g3, g4, fun h0 j hj hjl => ?_⟩
    by_cases hji : j = i
    ·subst hji; exact h5 he
    ·exact g5 h0 j (by omega) hjl
   ·exact ⟨e, m, by simp [he], by simp [he], h3, h4, fun h0 => absurd h0 he⟩

theorem check_eq : ∀ (d k : Nat) (t : GType) (l n : Int), l = 5 - d → d ≤ 5 → d < k → sizeT t < 1000000000 → 0 ≤ n → n ≤ 40 →
  ∃ e m, value_checker_check k t l ⟨n⟩ = some (e, ⟨m⟩) ∧ ref1_checkType k t l n = some (e, m) ∧ 0 ≤ m ∧ m ≤ 40 ∧ (e = 0 → V t) := by
 intro d
 induction d with
 | zero =>
  intro k t l n hl _ hk hs n0 n1
  obtain ⟨k, rfl⟩ : ∃ k', k = k' + 1 := ⟨k - 1, by omega⟩
  have hl4 : (4 : Int) < l := by omega
  rw [value_checker_check, ref1_checkType]
  simp only [hl4, decide_true, ift_true, value_checker_check_j1]
  exact ⟨7, n, rfl, rfl, n0, n1, fun h => by omega⟩
 | succ d ih =>
  intro k t l n hl hd hk hs n0 n1
  obtain ⟨k, rfl⟩ : ∃ k', k = k' + 1 := ⟨k - 1, by omega⟩
  have hl4 : ¬ (4 : Int) < l := by omega
  have hsz := sizeT_eq t
  have ho : FsOk t.fields := fsOk_of (by omega)
  have hq : ∀ f ∈ t.fields, ∀ n : Int, 0 ≤ n → n ≤ 40 → ∃ e m, value_checker_check k f.type (l + 1) ⟨n⟩ = some (e, ⟨m⟩) ∧ ref1_checkType k f.type (l + 1) n = some (e, m) ∧ 0 ≤ m ∧ m ≤ 40 ∧ (e = 0 → V f.type) := by
   intro f hf n n0 n1
   have h1 := sizeF_mem hf
   have h2 := sizeFd_eq f
   exact ih k f.type (l + 1) n (by omega) (by omega) (by omega) (by omega) n0 n1
  have main : ∀ z : Int, 0 ≤ z → z ≤ 40 → ∃ e m, value_checker_check_j2 (value_checker_check k) t l z = some (e, ⟨m⟩) ∧ ref1_checkType_j1 (ref1_checkType k) t l z = some (e, m) ∧ 0 ≤ m ∧ m ≤ 40 ∧ (e = 0 → V t) := by
   intro z z0 z1
   rw [checkJ2 ho, checkR1 ho]
   by_cases hsh : shp t = 0
   ·obtain ⟨e, m, h1, h2, h3, h4, h5⟩ := check_loop ho l (by omega) (by omega) _ _ hq BIG 0 z (Nat.zero_le _) (by rw [big_val]; have := ho.len; omega) z0 z1
    refine ⟨e, m, by simpa [hsh] using h1, by simpa [hsh] using h2, h3, h4, fun he => V_of hsh (fun f hf => ?_)⟩
    obtain ⟨j, hj, rfl⟩ := List.getElem_of_mem hf
    exact h5 he j (Nat.zero_le _) hj
   ·exact ⟨shp t, z, by simp [hsh], by simp [hsh], z0, z1, fun h => absurd h hsh⟩
  rw [value_checker_check, ref1_checkType]
  simp only [hl4, decide_false, ift_false, leafV, leafR, bnd_eq, value_checker_check_j1]
  by_cases hleaf : t.kind ≠ 6 ∧ t.kind ≠ 7
  ·simp only [hleaf, ne_eq, not_false_eq_true, and_self, decide_true, ift_true]
   by_cases h40 : n = 40
   ·simp only [h40, beq_self_eq_true, ift_true]
    exact ⟨7, 40, rfl, rfl, by omega, by omega, fun h => by omega⟩
   ·have : (n == 40) = false := by simpa using h40
    simp only [this, ift_false]
    rw [w64 (x := n + 1) (by omega) (by omega)]
    exact main (n + 1) (by omega) (by omega)
  ·simp only [hleaf, decide_false, ift_false]
   exact main n n0 n1

theorem checkType_eq (t : GType) (hs : sizeT t < 1000000000) : ∃ e, value_CheckType t = some e ∧ ref1_CheckType t = some e ∧ (e = 0 → V t) := by
 obtain ⟨e, m, h1, h2, h3, h4, h5⟩ := check_eq 4 BIG t 1 0 (by omega) (by omega) (by rw [big_val]; omega) hs (by omega) (by omega)
 refine ⟨e, ?_, ?_, h5⟩
 ·unfold value_CheckType; rw [h1]; rfl
 ·unfold ref1_CheckType; rw [h2]; rfl

end Go.Proofs.YtdkmclmdemngfaaDoor
namespace Go.Proofs.YtdkmclmdemngfaaDoor
open Go Go.SX Go.SX.Cal Go.Lib
set_option linter.unusedVariables false
set_option linter.unusedSimpArgs false

def scS (op s1 s2 : Int) : Int := if op = 3 then (if 12 < s1 + s2 then 12 else s1 + s2) else if op = 4 then (if 12 < max s1 s2 + 4 then 12 else max s1 s2 + 4) else max s1 s2

def resS (op : Int) (a b : GType) : Option GType :=
 if op = 6 ∨ op = 7 then (if a.kind = 1 ∧ b.kind = 1 then some ⟨1, 0, []⟩ else none)
 else if a.kind = 2 ∧ b.kind = 2 then some ⟨2, 0, []⟩
 else if (a.kind = 2 ∨ a.kind = 3) ∧ (b.kind = 2 ∨ b.kind = 3) then some ⟨3, scS op a.scale b.scale, []⟩
 else if a.kind = 5 ∧ b.kind = 2 then (if op = 1 ∨ op = 2 then some ⟨5, 0, []⟩ else none)
 else if a.kind = 2 ∧ b.kind = 5 then (if op = 1 then some ⟨5, 0, []⟩ else none)
 else if a.kind = 5 ∧ b.kind = 5 then (if op = 2 then some ⟨2, 0, []⟩ else none)
 else none

def Ans (o : Option GType) (r : Option (GType × Bool)) : Prop := ∃ t, r = some (t, o.isSome) ∧ ∀ t', o = some t' → t = t'

theorem ans_some {o : Option GType} {r : Option (GType × Bool)} (t : GType) (h : o = some t) (e : r = some (t, true)) : Ans o r := ⟨t, by rw [e, h]; rfl, fun t' h' => by rw [h] at h'; exact Option.some.inj h'⟩
theorem ans_none {o : Option GType} {r : Option (GType × Bool)} (t : GType) (h : o = none) (e : r = some (t, false)) : Ans o r := ⟨t, by rw [e, h]; rfl, fun t' h' => by rw [h] at h'; cases h'⟩

theorem vpair (x y : Int) (a b : GType) : value_result_1_s x y a.kind a.scale a.fields b.kind b.scale b.fields = some (decide (a.kind = x ∧ b.kind = y)) := by
 unfold value_result_1_s value_result_1_s_j1
 by_cases h : a.kind = x
 ·rw [show (a.kind == x) = true by simpa using h, ift_true]
  congr 1
  rw [Bool.eq_iff_iff]; simp [h]
 ·rw [show (a.kind == x) = false by simpa using h, ift_false]
  simp [h]

theorem vnumber (a : GType) : value_number a = some (decide (a.kind = 2 ∨ a.kind = 3)) := by
 unfold value_number value_number_j1
 by_cases h : a.kind = 2
 ·simp [h, ift]
 ·rw [show (a.kind == 2) = false by simpa using h, ift_false]
  congr 1
  rw [Bool.eq_iff_iff]; simp [h]

theorem risnum (k : Int) : ref1_isNumber k = some (decide (k = 2 ∨ k = 3)) := by
 unfold ref1_isNumber ref1_isNumber_j1
 by_cases h : k = 2
 ·simp [h, ift]
 ·rw [show (k == 2) = false by simpa using h, ift_false]
  congr 1
  rw [Bool.eq_iff_iff]; simp [h]

theorem kinds (k : Int) : k = 1 ∨ k = 2 ∨ k = 3 ∨ k = 5 ∨ (k ≠ 1 ∧ k ≠ 2 ∧ k ≠ 3 ∧ k ≠ 5) := by omega

theorem vresult (op : Int) (a b : GType) (ha : 0 ≤ a.scale ∧ a.scale ≤ 12) (hb : 0 ≤ b.scale ∧ b.scale ≤ 12) : Ans (resS op a b) (value_result op a b) := by
 have hm : (if b.scale > a.scale then b.scale else a.scale) = max a.scale b.scale := by split <;> omega
 have w1 : IntKind.i64.wrap (a.scale + b.scale) = a.scale + b.scale := w64 (by omega) (by omega)
 have w2 : IntKind.i64.wrap (max a.scale b.scale + 4) = max a.scale b.scale + 4 := w64 (by omega) (by omega)
 unfold value_result
 by_cases h67 : op = 6 ∨ op = 7
 ·have e : (ift (op == 6) (value_result_j1 op a b true) (value_result_j1 op a b (op == 7))) = value_result_j1 op a b true := by
   rcases h67 with h | h <;> subst h <;> rfl
  rw [e]
  unfold value_result_j1 resS
  rw [ift_true, vpair, bnd_some', if_pos h67]
  by_cases hp : a.kind = 1 ∧ b.kind = 1
  ·rw [if_pos hp]; exact ans_some _ rfl (by simp [hp])
  ·rw [if_neg hp]; exact ans_none ⟨1, 0, []⟩ rfl (by simp [hp])
 ·rw [show (op == 6) = false by simp; omega, ift_false, show (op == 7) = false by simp; omega]
  unfold value_result_j1 value_result_j2 value_result_j3 value_result_j4 value_result_j5 resS scS
  simp only [vpair, vnumber, bnd_some', ift_false, hm, w1, w2, ift_ite]
  rw [if_neg h67]
  rcases kinds a.kind with h1 | h1 | h1 | h1 | ⟨h1, h2, h3, h4⟩ <;> rcases kinds b.kind with k1 | k1 | k1 | k1 | ⟨k1, k2, k3, k4⟩ <;>
  ·by_cases o1 : op = 1
   ·subst o1
    simp +decide only [*]
    first | exact ans_some _ rfl rfl | exact ans_none _ rfl rfl | (simp; first | exact ans_some _ rfl rfl | exact ans_none _ rfl rfl)
   by_cases o2 : op = 2
   ·subst o2
    simp +decide only [*]
    first | exact ans_some _ rfl rfl | exact ans_none _ rfl rfl | (simp; first | exact ans_some _ rfl rfl | exact ans_none _ rfl rfl)
   by_cases o3 : op = 3
   ·subst o3
    simp +decide only [*]
    first | exact ans_some _ rfl rfl | exact ans_none _ rfl rfl | (simp; first | exact ans_some _ rfl rfl | exact ans_none _ rfl rfl)
   by_cases o4 : op = 4
   ·subst o4
    simp +decide only [*]
    first | exact ans_some _ rfl rfl | exact ans_none _ rfl rfl | (simp; first | exact ans_some _ rfl rfl | exact ans_none _ rfl rfl)
   ·simp [*]
    first | exact ans_some _ rfl rfl | exact ans_none _ rfl rfl

theorem rresult (op : Int) (a b : GType) (ha : 0 ≤ a.scale ∧ a.scale ≤ 12) (hb : 0 ≤ b.scale ∧ b.scale ≤ 12) (h2 : a.kind = 2 → a = ⟨2, 0, []⟩) : Ans (resS op a b) (ref1_result op a b) := by
 have w1 : IntKind.i64.wrap (a.scale + b.scale) = a.scale + b.scale := w64 (by omega) (by omega)
 unfold ref1_result
 by_cases h67 : op = 6 ∨ op = 7
 ·have e : (ift (op == 6) (ref1_result_j1 op a b true) (ref1_result_j1 op a b (op == 7))) = ref1_result_j1 op a b true := by
   rcases h67 with h | h <;> subst h <;> rfl
  rw [e]
  unfold ref1_result_j1 ref1_result_j2 resS
  rw [ift_true, if_pos h67]
  by_cases hp : a.kind = 1
  ·by_cases hq : b.kind = 1
   ·rw [if_pos ⟨hp, hq⟩]; exact ans_some _ rfl (by simp [hp, hq, ift])
   ·rw [if_neg (fun q => hq q.2)]; exact ans_none ⟨1, 0, []⟩ rfl (by simp [hp, hq, ift])
  ·rw [if_neg (fun q => hp q.1)]; exact ans_none ⟨1, 0, []⟩ rfl (by rw [show (a.kind == 1) = false by simpa using hp]; rfl)
 ·rw [show (op == 6) = false by simp; omega, ift_false, show (op == 7) = false by simp; omega]
  have j4 : ref1_result_j4 op a b true = some (⟨3, scS op a.scale b.scale, []⟩, true) := by
   unfold ref1_result_j4
   rw [ift_true]
   have j5 : ∀ m, m = max a.scale b.scale → ref1_result_j5 op a b m = some (⟨3, scS op a.scale b.scale, []⟩, true) := by
    rintro m rfl
    have w2 : IntKind.i64.wrap (max a.scale b.scale + 4) = max a.scale b.scale + 4 := w64 (by omega) (by omega)
    have j7 : ∀ x, ref1_result_j7 x = some (⟨3, if 12 < x then 12 else x, []⟩, true) := by
     intro x
     unfold ref1_result_j7 ref1_result_j8
     by_cases h : 12 < x
     ·simp [h, ift]
     ·simp [h, ift]
    unfold ref1_result_j5 ref1_result_j6 scS
    simp only [w1, w2, j7]
    by_cases o3 : op = 3
    ·subst o3; simp [ift]
    ·by_cases o4 : op = 4
     ·subst o4; simp [ift]
     ·rw [show (op == 3) = false by simpa using o3, show (op == 4) = false by simpa using o4, ift_false, ift_false, if_neg o3, if_neg o4, if_neg (by omega)]
   by_cases h : a.scale < b.scale
   ·rw [show decide (a.scale < b.scale) = true by simpa using h, ift_true]; exact j5 _ (by omega)
   ·rw [show decide (a.scale < b.scale) = false by simpa using h, ift_false]; exact j5 _ (by omega)
  unfold ref1_result_j1 ref1_result_j3 resS
  simp only [risnum, bnd_some', ift_false, ift_ite]
  rw [if_neg h67]
  by_cases c1 : a.kind = 2 ∧ b.kind = 2
  ·rw [if_pos c1]
   refine ans_some _ rfl ?_
   simp [c1.1, c1.2, h2 c1.1]
  rw [if_neg c1]
  by_cases c2 : (a.kind = 2 ∨ a.kind = 3) ∧ (b.kind = 2 ∨ b.kind = 3)
  ·rw [if_pos c2]
   refine ans_some _ rfl ?_
   rw [← j4]
   obtain ⟨p, q⟩ := c2
   rcases p with p | p <;> rcases q with q | q <;> simp [p, q] <;> (try exact absurd ⟨p, q⟩ c1)
  rw [if_neg c2]
  have e : (if decide (a.kind = 2 ∨ a.kind = 3) = true then ref1_result_j4 op a b (decide (b.kind = 2 ∨ b.kind = 3)) else ref1_result_j4 op a b false) = ref1_result_j4 op a b false := by
   by_cases p : a.kind = 2 ∨ a.kind = 3
   ·rw [if_pos (by simpa using p), show decide (b.kind = 2 ∨ b.kind = 3) = false by simp only [decide_eq_false_iff_not]; exact fun q => c2 ⟨p, q⟩]
   ·rw [if_neg (by simpa using p)]
  rw [e]
  have e2 : (if (a.kind == 2) = true then (if (b.kind == 2) = true then some (a, true) else ref1_result_j4 op a b false) else if false = true then some (a, true) else ref1_result_j4 op a b false) = ref1_result_j4 op a b false := by
   by_cases p : a.kind = 2
   ·rw [if_pos (by simpa using p), if_neg (by simpa using fun q => c1 ⟨p, q⟩)]
   ·rw [if_neg (by simpa using p), if_neg (by decide)]
  rw [e2]
  have fin : Ans (if a.kind = 5 ∧ b.kind = 2 then (if op = 1 ∨ op = 2 then some ⟨5, 0, []⟩ else none) else if a.kind = 2 ∧ b.kind = 5 then (if op = 1 then some ⟨5, 0, []⟩ else none) else if a.kind = 5 ∧ b.kind = 5 then (if op = 2 then some ⟨2, 0, []⟩ else none) else none) (ref1_result_j4 op a b false) := by
   unfold ref1_result_j4 ref1_result_j9 ref1_result_j10 ref1_result_j11 ref1_result_j12
   simp only [ift_false, ift_ite]
   rcases kinds a.kind with h1 | h1 | h1 | h1 | ⟨h1, h2', h3, h4⟩ <;> rcases kinds b.kind with k1 | k1 | k1 | k1 | ⟨k1, k2, k3, k4⟩ <;>
   ·by_cases o1 : op = 1
    ·subst o1
     simp [*]
     first | exact ans_some _ rfl rfl | exact ans_none _ rfl rfl
    by_cases o2 : op = 2
    ·subst o2
     simp [*]
     first | exact ans_some _ rfl rfl | exact ans_none _ rfl rfl
    ·have o1' : (op == 1) = false := by simpa using o1
     have o2' : (op == 2) = false := by simpa using o2
     simp [*]
     first | exact ans_some _ rfl rfl | exact ans_none _ rfl rfl
  exact fin

end Go.Proofs.YtdkmclmdemngfaaDoor
namespace Go.Proofs.YtdkmclmdemngfaaDoor
open Go Go.SX Go.SX.Cal Go.Lib
set_option linter.unusedVariables false
set_option linter.unusedSimpArgs false

theorem V_num {t : GType} (h : V t) : 0 ≤ t.scale ∧ t.scale ≤ 12 ∧ (t.kind = 2 → t = ⟨2, 0, []⟩) := by
 obtain ⟨_, hs, _⟩ := h
 unfold shp at hs
 split at hs
 ·omega
 ·rename_i hk
  split at hs
  ·omega
  ·rename_i hb
   unfold scBad at hb
   refine ⟨by omega, by omega, fun k2 => ?_⟩
   unfold vf at hs
   rw [if_neg (by omega), if_pos (by omega)] at hs
   have hf : t.fields = [] := by
    cases hq : t.fields with
    | nil => rfl
    | cons x l => rw [hq] at hs; simp at hs
   obtain ⟨k, s, f⟩ := t
   simp only at k2 hf hb ⊢
   subst k2; subst hf
   congr 1
   omega

theorem sound_leaf {v : GValue} (hs : soundB v = true) (h0 : v.kind ≠ 0) (h6 : v.kind ≠ 6) (h7 : v.kind ≠ 7) : 1 ≤ v.kind ∧ v.kind ≤ 5 ∧ (v.kind ≠ 3 → v.scale = 0) ∧ 0 ≤ v.scale ∧ v.scale ≤ 12 := by
 have hp := sound_plain hs
 unfold plainOk at hp
 simp only at hp
 by_cases h1 : v.kind = 1
 ·simp [h1] at hp; omega
 by_cases h2 : v.kind = 2
 ·simp [h2] at hp; omega
 by_cases h3 : v.kind = 3
 ·simp [h3] at hp; omega
 by_cases h4 : v.kind = 4
 ·simp [h4] at hp; omega
 by_cases h5 : v.kind = 5
 ·simp [h5] at hp; omega
 ·simp [h0, h1, h2, h3, h4, h5, h6, h7] at hp

def tru (v : GValue) : Int := if v.kind = 1 ∧ soundB v = true then v.n else -1

theorem tru_range (v : GValue) : tru v = -1 ∨ tru v = 0 ∨ tru v = 1 := by
 unfold tru
 split
 ·rename_i h
  have hp := sound_plain h.2
  unfold plainOk at hp
  simp [h.1] at hp
  omega
 ·exact .inl rfl

def logS (d : Int) (a b : GValue) : GValue := if tru a = d ∨ tru b = d then ⟨1, d, 0, ByteArray.empty, []⟩ else if tru a < 0 ∨ tru b < 0 then zeroV else ⟨1, 1 - d, 0, ByteArray.empty, []⟩

theorem vknown (v : GValue) (hv : sizeV v < 1000000000) : value_logic_1 v = some (decide (0 ≤ tru v)) := by
 unfold value_logic_1 value_logic_1_j1
 rw [vSound v hv]
 have hr := tru_range v
 by_cases h : v.kind = 1
 ·rw [show (v.kind == 1) = true by simpa using h, ift_true, bnd_some']
  congr 1
  unfold tru at hr ⊢
  cases hs : soundB v
  ·simp
  ·rw [hs] at hr
   rw [if_pos ⟨h, rfl⟩] at hr ⊢
   simp
   have hp := sound_plain hs
   unfold plainOk at hp
   simp [h] at hp
   omega
 ·rw [show (v.kind == 1) = false by simpa using h, ift_false]
  unfold tru
  rw [if_neg (fun q => h q.1)]; rfl

theorem vis (v : GValue) (d : Int) (hd : d = 0 ∨ d = 1) (hv : sizeV v < 1000000000) : value_logic_2_of_value_logic_1 v d = some (decide (tru v = d), ()) := by
 unfold value_logic_2_of_value_logic_1 value_logic_2_of_value_logic_1_j1
 rw [vknown v hv, bnd_some']
 by_cases h : 0 ≤ tru v
 ·have e : tru v = v.n := by unfold tru at h ⊢; split at h <;> simp_all
  rw [show decide (0 ≤ tru v) = true by simpa using h, ift_true, e]
  congr 2
 ·rw [show decide (0 ≤ tru v) = false by simpa using h, ift_false, show decide (tru v = d) = false by simp; omega]

theorem vtruth (b : Bool) : value_truth b = some ⟨1, if b = true then 1 else 0, 0, ByteArray.empty, []⟩ := by cases b <;> rfl

theorem vlogic (a b : GValue) (d : Int) (hd : d = 0 ∨ d = 1) (ha : sizeV a < 1000000000) (hb : sizeV b < 1000000000) : value_logic a b d = some (logS d a b) := by
 unfold value_logic value_logic_j1 value_logic_j2 logS
 rw [vis a d hd ha, vis b d hd hb, vknown a ha, vknown b hb, vtruth, vtruth]
 simp only [bnd_some']
 have ra := tru_range a
 have rb := tru_range b
 have e1 : (if (d == 1) = true then (1 : Int) else 0) = d := by rcases hd with h | h <;> subst h <;> rfl
 have e2 : (if (d == 0) = true then (1 : Int) else 0) = 1 - d := by rcases hd with h | h <;> subst h <;> rfl
 rw [e1, e2]
 by_cases h1 : tru a = d
 ·rw [show decide (tru a = d) = true by simpa using h1, ift_true, ift_true, if_pos (.inl h1)]
 rw [show decide (tru a = d) = false by simpa using h1, ift_false]
 by_cases h2 : tru b = d
 ·rw [show decide (tru b = d) = true by simpa using h2, ift_true, if_pos (.inr h2)]
 rw [show decide (tru b = d) = false by simpa using h2, ift_false, if_neg (by omega)]
 by_cases h3 : 0 ≤ tru a
 ·rw [show decide (0 ≤ tru a) = true by simpa using h3, Bool.not_true, ift_false]
  by_cases h4 : 0 ≤ tru b
  ·rw [show decide (0 ≤ tru b) = true by simpa using h4, Bool.not_true, ift_false, if_neg (by omega)]
  ·rw [show decide (0 ≤ tru b) = false by simpa using h4, Bool.not_false, ift_true, if_pos (by omega)]; rfl
 ·rw [show decide (0 ≤ tru a) = false by simpa using h3, Bool.not_false, ift_true, ift_true, if_pos (by omega)]; rfl

def cmpS (op : Int) (a b : GValue) : GValue :=
 if op = 6 then logS 0 a b else if op = 7 then logS 1 a b
 else if soundB a = true ∧ soundB b = true ∧ a.kind ≠ 0 ∧ b.kind ≠ 0 ∧ 1 ≤ op ∧ op ≤ 5 then
  (resS op ⟨a.kind, a.scale, []⟩ ⟨b.kind, b.scale, []⟩).elim zeroV (fun t => compS op a b t)
 else zeroV

theorem sound_scale {v : GValue} (hs : soundB v = true) : 0 ≤ v.scale ∧ v.scale ≤ 12 := by
 have hp := sound_plain hs
 unfold plainOk at hp
 simp only at hp
 by_cases h0 : v.kind = 0
 ·simp [h0] at hp; omega
 by_cases h6 : v.kind = 6
 ·simp [h6] at hp; omega
 by_cases h7 : v.kind = 7
 ·simp [h7] at hp; omega
 have := sound_leaf hs h0 h6 h7
 omega

theorem nums_of {op : Int} {a b : GValue} {t : GType} (ha : soundB a = true) (hb : soundB b = true) (a0 : a.kind ≠ 0) (b0 : b.kind ≠ 0) (ho : 1 ≤ op ∧ op ≤ 5) (h : resS op ⟨a.kind, a.scale, []⟩ ⟨b.kind, b.scale, []⟩ = some t) : Nums op a b t := by
 have sa := sound_scale ha
 have sb := sound_scale hb
 have na := sound_small ha
 have nb := sound_small hb
 unfold resS at h
 simp only at h
 rw [if_neg (by omega)] at h
 have za : a.kind = 2 ∨ a.kind = 5 → a.scale = 0 := fun q => (sound_leaf ha a0 (by omega) (by omega)).2.2.1 (by omega)
 have zb : b.kind = 2 ∨ b.kind = 5 → b.scale = 0 := fun q => (sound_leaf hb b0 (by omega) (by omega)).2.2.1 (by omega)
 split at h
 ·rename_i hk
  obtain rfl := Option.some.inj h
  have := za (.inl hk.1); have := zb (.inl hk.2)
  exact ⟨na, nb, by omega, by omega, by omega, by omega, by simp only; omega, by simp only; omega, fun _ => by simp only; omega, fun _ => by simp only; omega, fun _ _ => ⟨by omega, by omega, rfl⟩⟩
 split at h
 ·rename_i hk
  obtain rfl := Option.some.inj h
  unfold scS
  refine ⟨na, nb, by omega, by omega, by omega, by omega, ?_, ?_, fun ho => ?_, fun ho => ?_, fun _ hq => absurd hq (by simp)⟩
  ·simp only; split
   ·split <;> omega
   ·split
    ·split <;> omega
    ·omega
  ·simp only; split
   ·split <;> omega
   ·split
    ·split <;> omega
    ·omega
  ·simp only; rw [if_neg (by omega), if_neg (by omega)]
  ·simp only; rw [if_pos ho]; split <;> omega
 split at h
 ·rename_i hk
  split at h
  ·rename_i ho1
   obtain rfl := Option.some.inj h
   have := za (.inr hk.1); have := zb (.inl hk.2)
   exact ⟨na, nb, by omega, by omega, by omega, by omega, by simp only; omega, by simp only; omega, fun _ => by simp only; omega, fun _ => by simp only; omega, fun _ hq => absurd hq (by simp)⟩
  ·cases h
 split at h
 ·rename_i hk
  split at h
  ·rename_i ho1
   obtain rfl := Option.some.inj h
   have := za (.inl hk.1); have := zb (.inr hk.2)
   exact ⟨na, nb, by omega, by omega, by omega, by omega, by simp only; omega, by simp only; omega, fun _ => by simp only; omega, fun _ => by simp only; omega, fun _ hq => absurd hq (by simp)⟩
  ·cases h
 split at h
 ·rename_i hk
  split at h
  ·rename_i ho1
   obtain rfl := Option.some.inj h
   have := za (.inr hk.1); have := zb (.inr hk.2)
   exact ⟨na, nb, by omega, by omega, by omega, by omega, by simp only; omega, by simp only; omega, fun _ => by simp only; omega, fun _ => by simp only; omega, fun _ _ => ⟨by omega, by omega, rfl⟩⟩
  ·cases h
 ·cases h

theorem vCompute (op : Int) (a b : GValue) (ha : sizeV a < 1000000000) (hb : sizeV b < 1000000000) : value_Compute op a b = some (cmpS op a b) := by
 unfold value_Compute cmpS
 by_cases h6 : op = 6
 ·subst h6; rw [show ((6 : Int) == 6) = true from rfl, ift_true, vlogic a b 0 (.inl rfl) ha hb, if_pos rfl]; rfl
 rw [show (op == 6) = false by simpa using h6, ift_false, if_neg h6]
 by_cases h7 : op = 7
 ·subst h7; rw [show ((7 : Int) == 7) = true from rfl, ift_true, vlogic a b 1 (.inr rfl) ha hb, if_pos rfl]; rfl
 rw [show (op == 7) = false by simpa using h7, ift_false, if_neg h7, vSound a ha, vSound b hb, bnd_some']
 have bad : ∀ (_ : ¬ (soundB a = true ∧ soundB b = true ∧ a.kind ≠ 0 ∧ b.kind ≠ 0 ∧ 1 ≤ op ∧ op ≤ 5)), value_Compute_j1 op a b true = some (if soundB a = true ∧ soundB b = true ∧ a.kind ≠ 0 ∧ b.kind ≠ 0 ∧ 1 ≤ op ∧ op ≤ 5 then (resS op ⟨a.kind, a.scale, []⟩ ⟨b.kind, b.scale, []⟩).elim zeroV (fun t => compS op a b t) else zeroV) := fun h => by rw [if_neg h]; rfl
 cases hsa : soundB a
 ·rw [Bool.not_false, ift_true]; rw [hsa] at bad; exact bad (by simp)
 rw [Bool.not_true, ift_false, bnd_some']
 cases hsb : soundB b
 ·rw [Bool.not_false, ift_true]; rw [hsb] at bad; have := bad (by simp); rw [hsa] at this; exact this
 rw [Bool.not_true, ift_false]
 rw [hsa, hsb] at bad
 by_cases ka : a.kind = 0
 ·rw [show (a.kind == 0) = true by simpa using ka, ift_true]; exact bad (by simp [ka])
 rw [show (a.kind == 0) = false by simpa using ka, ift_false]
 by_cases kb : b.kind = 0
 ·rw [show (b.kind == 0) = true by simpa using kb]; exact bad (by simp [kb])
 rw [show (b.kind == 0) = false by simpa using kb]
 unfold value_Compute_j1
 rw [ift_false]
 have bad2 : ∀ (_ : ¬ (1 ≤ op ∧ op ≤ 5)), value_Compute_j2 op a b true = some (if true = true ∧ true = true ∧ a.kind ≠ 0 ∧ b.kind ≠ 0 ∧ 1 ≤ op ∧ op ≤ 5 then (resS op ⟨a.kind, a.scale, []⟩ ⟨b.kind, b.scale, []⟩).elim zeroV (fun t => compS op a b t) else zeroV) := fun h => by rw [if_neg (fun q => h q.2.2.2.2)]; rfl
 by_cases o1 : op < 1
 ·rw [show decide (op < 1) = true by simpa using o1, ift_true]; exact bad2 (by omega)
 rw [show decide (op < 1) = false by simpa using o1, ift_false]
 by_cases o5 : 5 < op
 ·rw [show decide (5 < op) = true by simpa using o5]; exact bad2 (by omega)
 rw [show decide (5 < op) = false by simpa using o5]
 unfold value_Compute_j2 value_kindOf
 simp only [ift_false, bnd_some']
 have sa := sound_scale hsa
 have sb := sound_scale hsb
 obtain ⟨t, e1, e2⟩ := vresult op ⟨a.kind, a.scale, []⟩ ⟨b.kind, b.scale, []⟩ sa sb
 rw [e1, bnd_some', if_pos ⟨trivial, trivial, ka, kb, by omega, by omega⟩]
 cases hr : resS op ⟨a.kind, a.scale, []⟩ ⟨b.kind, b.scale, []⟩ with
 | none => rfl
 | some t' =>
  have ht := e2 t' hr
  subst ht
  simp only [Option.isSome_some, Bool.not_true, ift_false, Option.elim]
  rw [vcompute op a b t (by omega) (nums_of hsa hsb ka kb (by omega) hr), bnd_some']

end Go.Proofs.YtdkmclmdemngfaaDoor
namespace Go.Proofs.YtdkmclmdemngfaaDoor
open Go Go.SX Go.SX.Cal Go.Lib
set_option linter.unusedVariables false
set_option linter.unusedSimpArgs false

theorem results (op : Int) (a b : GType) (ha : sizeT a < 1000000000) (hb : sizeT b < 1000000000) : ∃ t e, value_Result op a b = some (t, e) ∧ ref1_Result op a b = some (t, e) ∧ t.fields = [] := by
 obtain ⟨ea, a1, a2, a3⟩ := checkType_eq a ha
 obtain ⟨eb, b1, b2, b3⟩ := checkType_eq b hb
 unfold value_Result value_Result_j1 ref1_Result
 rw [rWithin, bnd_some', a2, b2]
 simp only [bnd_some', show at? [a, b] (0 : Int) = some a from rfl, show at? [a, b] (1 : Int) = some b from rfl, a1, b1]
 by_cases ho : 1 ≤ op ∧ op ≤ 7
 case neg =>
  rw [show (decide (1 ≤ op) && decide (op ≤ 7)) = false by rw [← Bool.decide_and]; simpa only [decide_eq_false_iff_not] using ho, Bool.not_false, ift_true]
  refine ⟨⟨0, 0, []⟩, 3, ?_, rfl, rfl⟩
  by_cases h : op < 1
  ·rw [show decide (op < 1) = true by simpa using h]; rfl
  ·rw [show decide (op < 1) = false by simpa using h, show decide (7 < op) = true by simp; omega]; rfl
 rw [show (decide (1 ≤ op) && decide (op ≤ 7)) = true by rw [← Bool.decide_and]; simpa only [decide_eq_true_eq] using ho, Bool.not_true, ift_false, show decide (op < 1) = false by simp; omega, show decide (7 < op) = false by simp; omega, ift_false, ift_false]
 by_cases h1 : ea = 0
 case neg => exact ⟨⟨0, 0, []⟩, ea, by rw [show (ea != 0) = true by simpa using h1]; rfl, by rw [show (ea != 0) = true by simpa using h1]; rfl, rfl⟩
 rw [show (ea != 0) = false by simpa using h1, ift_false, ift_false]
 by_cases h2 : eb = 0
 case neg => exact ⟨⟨0, 0, []⟩, eb, by rw [show (eb != 0) = true by simpa using h2]; rfl, by rw [show (eb != 0) = true by simpa using h2]; rfl, rfl⟩
 rw [show (eb != 0) = false by simpa using h2, ift_false, ift_false]
 obtain ⟨sa, sa', sa2⟩ := V_num (a3 h1)
 obtain ⟨sb, sb', sb2⟩ := V_num (b3 h2)
 obtain ⟨t, e1, e2⟩ := vresult op a b ⟨sa, sa'⟩ ⟨sb, sb'⟩
 obtain ⟨u, f1, f2⟩ := rresult op a b ⟨sa, sa'⟩ ⟨sb, sb'⟩ sa2
 rw [e1, f1, bnd_some', bnd_some']
 cases hr : resS op a b with
 | none => exact ⟨⟨0, 0, []⟩, 2, rfl, rfl, rfl⟩
 | some t' =>
  have q1 := e2 t' hr
  have q2 := f2 t' hr
  subst q1; subst q2
  refine ⟨u, 0, rfl, rfl, ?_⟩
  unfold resS at hr
  repeat' split at hr
  all_goals first | (cases hr; done) | (have hq := Option.some.inj hr; rw [← hq]; done) | (cases hr; rfl)

abbrev iV (n : Int) : GValue := ⟨2, n, 0, ByteArray.empty, []⟩

theorem sound_int {n : Int} : soundB (iV n) = decide (-999999999999999999 ≤ n ∧ n ≤ 999999999999999999) := by
 rw [sound_bare]
 unfold plainOk
 rw [Bool.eq_iff_iff]
 simp [iV]

theorem numV_int {n : Int} : numV 2 n 0 = if -999999999999999999 ≤ n ∧ n ≤ 999999999999999999 then iV n else zeroV := by
 rw [numV_eq, ← sound_bare]
 show (if soundB (iV n) = true then _ else _) = _
 rw [sound_int]
 simp only [decide_eq_true_eq]

theorem cmp_int {op m n : Int} (ho : 1 ≤ op ∧ op ≤ 5) (hm : -999999999999999999 ≤ m ∧ m ≤ 999999999999999999) (hn : -999999999999999999 ≤ n ∧ n ≤ 999999999999999999) : cmpS op (iV m) (iV n) = compS op (iV m) (iV n) ⟨2, 0, []⟩ := by
 unfold cmpS
 rw [if_neg (by omega), if_neg (by omega), sound_int, sound_int, if_pos ⟨by simpa using hm, by simpa using hn, (show (2 : Int) ≠ 0 by decide), (show (2 : Int) ≠ 0 by decide), ho.1, ho.2⟩]
 unfold resS
 rw [if_neg (by omega), if_pos ⟨rfl, rfl⟩]; rfl

theorem comp_add (m n : Int) : compS 1 (iV m) (iV n) ⟨2, 0, []⟩ = numV 2 (m + n) 0 := by
 unfold compS; rw [if_pos rfl]; simp [iV, p10]
theorem comp_sub (m n : Int) : compS 2 (iV m) (iV n) ⟨2, 0, []⟩ = numV 2 (m - n) 0 := by
 unfold compS; rw [if_neg (by decide), if_pos rfl]; simp [iV, p10]
theorem comp_div (m n : Int) (h : n ≠ 0) : compS 4 (iV m) (iV n) ⟨2, 0, []⟩ = numV 2 (m.tdiv n) 0 := by
 unfold compS; rw [if_neg (by decide), if_neg (by decide), if_neg (by decide), if_neg h, if_neg (by decide), if_pos rfl]; simp [iV, p10]
theorem comp_mod (m n : Int) (h : n ≠ 0) : compS 5 (iV m) (iV n) ⟨2, 0, []⟩ = numV 2 (m.tmod n) 0 := by
 unfold compS; rw [if_neg (by decide), if_neg (by decide), if_neg (by decide), if_neg h, if_pos rfl]; simp [iV, p10]

theorem tdiv_bound {m n M : Int} (h0 : -M ≤ m) (h1 : m ≤ M) : -M ≤ m.tdiv n ∧ m.tdiv n ≤ M := by
 have h : (m.tdiv n).natAbs ≤ m.natAbs := by rw [Int.natAbs_tdiv]; exact Nat.div_le_self _ _
 omega

theorem law_quotients (m n : Int) (hm : -9223372036854775808 ≤ m ∧ m ≤ 9223372036854775807) (hn : -9223372036854775808 ≤ n ∧ n ≤ 9223372036854775807) : law1_ValueQuotientsAddUp m n = some true := by
 unfold law1_ValueQuotientsAddUp law1_number
 simp only [bnd_some']
 rw [vCompute _ _ _ (size_plain _ _ _) (size_plain _ _ _), bnd_some', cmp_int (m := 7) (n := 2) (by decide) (by decide) (by decide), comp_div 7 2 (by decide), numV_int, if_pos (by decide), show Int.tdiv 7 2 = 3 from rfl, exactly_same _ (size_plain _ _ _), bnd_some', Bool.not_true, ift_false]
 have out : law1_ValueQuotientsAddUp_j1 m n true = some true := rfl
 by_cases h1 : m < -999999999999999999
 ·rw [show decide (m < -999999999999999999) = true by simpa using h1, ift_true, out]
 rw [show decide (m < -999999999999999999) = false by simpa using h1, ift_false]
 by_cases h2 : 999999999999999999 < m
 ·rw [show decide (999999999999999999 < m) = true by simpa using h2, ift_true, out]
 rw [show decide (999999999999999999 < m) = false by simpa using h2, ift_false]
 by_cases h3 : n < -999999999999999999
 ·rw [show decide (n < -999999999999999999) = true by simpa using h3, ift_true, out]
 rw [show decide (n < -999999999999999999) = false by simpa using h3, ift_false]
 by_cases h4 : 999999999999999999 < n
 ·rw [show decide (999999999999999999 < n) = true by simpa using h4, ift_true, out]
 rw [show decide (999999999999999999 < n) = false by simpa using h4, ift_false]
 by_cases h5 : n = 0
 ·rw [show (n == 0) = true by simpa using h5, out]
 rw [show (n == 0) = false by simpa using h5]
 have hqb := tdiv_bound (m := m) (n := n) (M := 999999999999999999) (by omega) (by omega)
 have hdm := Int.tdiv_mul_add_tmod m n
 have hrb : (m.tmod n).natAbs < n.natAbs := by
  rw [Int.natAbs_tmod]; exact Nat.mod_lt _ (by omega)
 have hsg : (0 ≤ m → 0 ≤ m.tmod n) ∧ (m ≤ 0 → m.tmod n ≤ 0) := by
  refine ⟨fun h => Int.tmod_nonneg _ h, fun h => ?_⟩
  have := Int.tmod_nonneg n (show 0 ≤ -m by omega)
  rw [Int.neg_tmod] at this
  omega
 have hj2 : law1_ValueQuotientsAddUp_j2 m n false = some true := by
  unfold law1_ValueQuotientsAddUp_j2 law1_ValueQuotientsAddUp_j3
  rw [ift_false, vCompute _ _ _ (size_plain _ _ _) (size_plain _ _ _), bnd_some', cmp_int (by decide) (by omega) (by omega), comp_add, numV_int]
  by_cases hs : -999999999999999999 ≤ m + n ∧ m + n ≤ 999999999999999999
  ·rw [if_pos hs, show ((iV (m + n)).kind == 0) = false from rfl, ift_false, vCompute _ _ _ (size_plain _ _ _) (size_plain _ _ _), bnd_some', cmp_int (by decide) hs (by omega), comp_sub, numV_int, show m + n - n = m by omega, if_pos (by omega), exactly_same _ (size_plain _ _ _), bnd_some']
  ·rw [if_neg hs]; rfl
 unfold law1_ValueQuotientsAddUp_j1
 rw [ift_false, vCompute _ _ _ (size_plain _ _ _) (size_plain _ _ _), bnd_some', cmp_int (by decide) (by omega) (by omega), comp_div m n h5, numV_int, if_pos hqb, vCompute _ _ _ (size_plain _ _ _) (size_plain _ _ _), bnd_some', cmp_int (by decide) (by omega) (by omega), comp_mod m n h5, numV_int, if_pos (by omega)]
 simp only [iV]
 generalize hq : m.tdiv n = q at *
 generalize hr : m.tmod n = r at *
 have w1 : IntKind.i64.wrap (q * n) = q * n := w64 (by omega) (by omega)
 have w2 : IntKind.i64.wrap (q * n + r) = m := by rw [hdm]; exact w64 (by omega) (by omega)
 have w3 : IntKind.i64.wrap (0 - n) = -n := by rw [w64 (by omega) (by omega)]; omega
 rw [w1, w2, w3]
 simp only [bne_self_eq_false, ift_false, ift_ite, decide_eq_true_eq, hj2]
 by_cases n0 : 0 < n
 ·rw [if_neg (show ¬ r ≤ -n by omega), if_neg (show ¬ n ≤ r by omega)]
  by_cases m0 : m < 0
  ·rw [if_pos m0, if_neg (show ¬ 0 < r by omega), if_neg (show ¬ 0 < m by omega)]
   simp only [Bool.false_eq_true, if_false]
  ·rw [if_neg m0]
   by_cases m1 : 0 < m
   ·rw [if_pos m1, show decide (r < 0) = false by simp; omega, hj2]
    simp only [Bool.false_eq_true, if_false]
   ·rw [if_neg m1]
    simp only [Bool.false_eq_true, if_false]
 ·have fin : (if m < 0 then if 0 < r then law1_ValueQuotientsAddUp_j2 m n true else if 0 < m then law1_ValueQuotientsAddUp_j2 m n (decide (r < 0)) else some true else if 0 < m then law1_ValueQuotientsAddUp_j2 m n (decide (r < 0)) else some true) = some true := by
   by_cases m0 : m < 0
   ·rw [if_pos m0, if_neg (show ¬ 0 < r by omega), if_neg (show ¬ 0 < m by omega)]
   ·rw [if_neg m0]
    by_cases m1 : 0 < m
    ·rw [if_pos m1, show decide (r < 0) = false by simp; omega, hj2]
    ·rw [if_neg m1]
  simp only [fin, n0, if_false, ite_self, Bool.false_eq_true]

end Go.Proofs.YtdkmclmdemngfaaDoor
