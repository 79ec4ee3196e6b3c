/- The calendar, in plain integers. What needs no program: searches, bytes, sizes, words, digits. Sound of both sides. Values and types as they are read. The reference's integers: their digits. The reference's integers: differences, quotients, rounding. Numbers of 256 bits: what each operation of the program computes, as equations. Division of numbers of 256 bits, rounding, and values made of them. The reference's integers, in plain terms. The reference's integers: sums, products, quotients, values made of them. Values made of numbers on both sides; Round. The law of sums and means. -/
import Derived.Lib.ValidU
import Derived.Test.YtdbfodeghijdlaaDoorGeB
namespace Go.SX.Cal
open Go
set_option linter.unusedVariables false

theorem w64 {x : Int} (h1 : -9223372036854775808 ≤ x) (h2 : x ≤ 9223372036854775807) : IntKind.i64.wrap x = x := by
 simp only [IntKind.wrap, IntKind.bits, IntKind.signed]
 simp only [Bool.true_and, decide_eq_true_eq, ge_iff_le]
 split <;> omega

/-! ### years of an era -/

def S (y : Int) : Int := 365 * y + y / 4 - y / 100
def F (r : Int) : Int := r - r / 1460 + r / 36524
def leap (y : Int) : Prop := y % 4 = 0 ∧ (y % 100 ≠ 0 ∨ y % 400 = 0)

instance (y : Int) : Decidable (leap y) := by unfold leap; infer_instance

/-! ### days -/

def E (y : Int) : Int := y / 400 * 146097 + S (y % 400) - 719468

end Go.SX.Cal
namespace Go.SX.Cal
open Go Go.SX Go.Lib
set_option linter.unusedVariables false
set_option linter.unusedSimpArgs false

theorem ift_true {β : Type} (x y : Option β) : ift true x y = x := rfl
theorem ift_false {β : Type} (x y : Option β) : ift false x y = y := rfl
theorem ift_ite {β : Type} (b : Bool) (x y : Option β) : ift b x y = if b = true then x else y := by cases b <;> rfl
theorem big_val : BIG = 1152921504606846976 := rfl

def first (P : Nat → Bool) (i n : Nat) : Option Nat := (List.range' i (n - i)).find? P

theorem first_step {P : Nat → Bool} {i n : Nat} (h : i < n) : first P i n = if P i = true then some i else first P (i + 1) n := by
 unfold first
 rw [show n - i = (n - (i + 1)) + 1 by omega, List.range'_succ, List.find?_cons]
 cases hp : P i <;> simp [hp]

theorem first_end {P : Nat → Bool} {n : Nat} : first P n n = none := by simp [first]

def byt (s : ByteArray) (i : Nat) : Nat := (s.data.toList.getD i 0).toNat

theorem get_byt (s : ByteArray) (i : Nat) (h : i < s.size) : (s.get! i).toNat = byt s i := by
 unfold byt
 have h' : i < s.data.size := h
 have : s.get! i = s.data.toList.getD i 0 := by
  simp only [ByteArray.get!, List.getD, Array.getElem?_toList]
  rw [getElem!_pos s.data i h', Array.getElem?_eq_getElem h']; rfl
 rw [this]

theorem decode_lo (s : ByteArray) (i : Nat) (h : i < s.size) (hb : byt s i < 128) : Utf8.decode s i = (byt s i, 1) := by
 have e := get_byt s i h
 unfold Utf8.decode
 simp [e, hb]

theorem decode_hi (s : ByteArray) (i : Nat) (h : i < s.size) (hb : ¬ byt s i < 128) : 128 ≤ (Utf8.decode s i).1 := by
 have e := get_byt s i h
 unfold Utf8.decode
 simp only [Nat.add_zero, e, if_neg hb, Utf8.runeError]
 repeat' split
 all_goals simp_all
 all_goals omega

theorem size_zero (s : ByteArray) : (s.toList == (ByteArray.mk #[]).toList) = decide (s.size = 0) := by
 rw [ByteArray.toList_eq, ByteArray.toList_eq, Bool.eq_iff_iff]
 show (s.data.toList == []) = true ↔ decide (s.data.size = 0) = true
 rw [← Array.length_toList]
 cases s.data.toList <;> simp

theorem wrap_succ {i n : Nat} (h : i < n) (hn : n < 1000000000) : IntKind.i64.wrap ((i : Int) + 1) = ((i + 1 : Nat) : Int) := by rw [w64 (by omega) (by omega)]; omega

theorem at_nat {α : Type} {xs : List α} {i : Nat} (h : i < xs.length) : at? xs (i : Int) = some xs[i] := by unfold at?; simp [h]

theorem dec_lt {i n : Nat} (h : i < n) : decide ((i : Int) < (n : Int)) = true := by simp [h]

mutual
def sizeV : GValue → Nat
 | ⟨_, _, _, s, it⟩ => s.size + sizeL it + 1
def sizeL : List GValue → Nat
 | [] => 0
 | x :: l => sizeV x + sizeL l
end

theorem sizeV_eq : ∀ v : GValue, sizeV v = v.s.size + sizeL v.items + 1
 | ⟨_, _, _, _, _⟩ => by simp only [sizeV]

theorem sizeL_mem : ∀ {l : List GValue} {x : GValue}, x ∈ l → sizeV x ≤ sizeL l
 | [], _, h => by cases h
 | y :: l, x, h => by
  simp only [sizeL]
  rcases List.mem_cons.1 h with rfl | h
  ·omega
  ·have := sizeL_mem h; omega

theorem sizeV_pos : ∀ v : GValue, 1 ≤ sizeV v
 | ⟨_, _, _, _, _⟩ => by simp only [sizeV]; omega

theorem sizeL_len : ∀ l : List GValue, l.length ≤ sizeL l
 | [] => by simp [sizeL]
 | x :: l => by
  have := sizeL_len l
  have := sizeV_pos x
  simp only [sizeL, List.length_cons]; omega

theorem ift_and (b x : Bool) : ift b (some x) (some false) = some (b && x) := by cases b <;> rfl
theorem bnd_some' {α β : Type} (a : α) (f : α → Option β) : bnd (some a) f = f a := rfl

theorem first_skip {P : Nat → Bool} {n : Nat} : ∀ (d i : Nat), i + d ≤ n → (∀ j, i ≤ j → j < i + d → P j = false) → first P i n = first P (i + d) n
 | 0, i, _, _ => rfl
 | d + 1, i, h, hP => by
  rw [first_step (by omega), hP i (by omega) (by omega)]
  simp only [Bool.false_eq_true, if_false]
  rw [first_skip d (i + 1) (by omega) (fun j h1 h2 => hP j (by omega) (by omega))]
  congr 1; omega

theorem decode_skip (s : ByteArray) (i : Nat) (h : i < s.size) (hb : ¬ byt s i < 128) :
  1 ≤ (Utf8.decode s i).2 ∧ i + (Utf8.decode s i).2 ≤ s.size ∧ ∀ j, i ≤ j → j < i + (Utf8.decode s i).2 → 128 ≤ byt s j := by
 have e := get_byt s i h
 have one : ∀ j, i ≤ j → j < i + 1 → 128 ≤ byt s j := fun j h1 h2 => by
  have : j = i := by omega
  subst this; omega
 have ct : ∀ k, (decide (i + k < s.size) && (s.get! (i + k)).toNat / 64 == 2) = true → i + k < s.size ∧ 128 ≤ byt s (i + k) := by
  intro k hk
  simp only [Bool.and_eq_true, decide_eq_true_eq, beq_iff_eq] at hk
  rw [get_byt s _ hk.1] at hk
  exact ⟨hk.1, by omega⟩
 unfold Utf8.decode
 simp only [Nat.add_zero, e, if_neg hb]
 split
 ·rename_i h1
  simp only [Bool.and_eq_true] at h1
  obtain ⟨l1, b1⟩ := ct 1 (by simpa using h1.2)
  split
  ·refine ⟨by simp, by simp only; omega, fun j h2 h3 => ?_⟩
   simp only at h3
   by_cases hj : j = i
   ·subst hj; omega
   ·have : j = i + 1 := by omega
    subst this; exact b1
  ·exact ⟨by simp, by simp only; omega, one⟩
 ·split
  ·rename_i h1
   simp only [Bool.and_eq_true] at h1
   obtain ⟨l1, b1⟩ := ct 1 (by simpa using h1.1.2)
   obtain ⟨l2, b2⟩ := ct 2 (by simpa using h1.2)
   split
   ·refine ⟨by simp, by simp only; omega, fun j h2 h3 => ?_⟩
    simp only at h3
    by_cases hj : j = i
    ·subst hj; omega
    ·by_cases hj : j = i + 1
     ·subst hj; exact b1
     ·have : j = i + 2 := by omega
      subst this; exact b2
   ·exact ⟨by simp, by simp only; omega, one⟩
  ·split
   ·rename_i h1
    simp only [Bool.and_eq_true] at h1
    obtain ⟨l1, b1⟩ := ct 1 (by simpa using h1.1.1.2)
    obtain ⟨l2, b2⟩ := ct 2 (by simpa using h1.1.2)
    obtain ⟨l3, b3⟩ := ct 3 (by simpa using h1.2)
    split
    ·refine ⟨by simp, by simp only; omega, fun j h2 h3 => ?_⟩
     simp only at h3
     by_cases hj : j = i
     ·subst hj; omega
     ·by_cases hj : j = i + 1
      ·subst hj; exact b1
      ·by_cases hj : j = i + 2
       ·subst hj; exact b2
       ·have : j = i + 3 := by omega
        subst this; exact b3
    ·exact ⟨by simp, by simp only; omega, one⟩
   ·exact ⟨by simp, by simp only; omega, one⟩

def ctl (s : ByteArray) (i : Nat) : Bool := decide (byt s i < 32) || byt s i == 127

theorem wu {x : Int} : IntKind.u64.wrap x = x % 18446744073709551616 := by
 simp only [IntKind.wrap, IntKind.bits, IntKind.signed]
 simp

structure W4 (w : GWide) : Prop where
 a0 : 0 ≤ w.size.1
 a1 : w.size.1 < 18446744073709551616
 b0 : 0 ≤ w.size.2.1
 b1 : w.size.2.1 < 18446744073709551616
 c0 : 0 ≤ w.size.2.2.1
 c1 : w.size.2.2.1 < 18446744073709551616
 d0 : 0 ≤ w.size.2.2.2
 d1 : w.size.2.2.2 < 18446744073709551616

def val (w : GWide) : Int := w.size.1 + w.size.2.1 * 18446744073709551616 + w.size.2.2.1 * 340282366920938463463374607431768211456 + w.size.2.2.2 * 6277101735386680763835789423207666416102355444464034512896

theorem mask32 {x : Int} (h0 : 0 ≤ x) (h1 : x < 18446744073709551616) : ((BitVec.ofInt (IntKind.u64).bits x &&& BitVec.ofInt (IntKind.u64).bits (4294967295 : Int)).toNat : Int) = x % 4294967296 := by
 have e : (BitVec.ofInt 64 x).toNat = x.toNat := by
  rw [BitVec.toNat_ofInt]
  have : x % ((2 ^ 64 : Nat) : Int) = x := by omega
  rw [this]
 have hand : (BitVec.ofInt 64 x &&& BitVec.ofInt 64 (4294967295 : Int)).toNat = x.toNat % 4294967296 := by
  rw [BitVec.toNat_and, e]
  have : (BitVec.ofInt 64 (4294967295 : Int)).toNat = 2 ^ 32 - 1 := by decide
  rw [this, Nat.and_two_pow_sub_one_eq_mod]
 show ((BitVec.ofInt 64 x &&& BitVec.ofInt 64 (4294967295 : Int)).toNat : Int) = _
 rw [hand]
 omega

theorem sh32 (x : Int) : x.fdiv (2 ^ (min (32 : Int).toNat (IntKind.u64).bits)) = x / 4294967296 := by
 have : (2 : Int) ^ (min (32 : Int).toNat (IntKind.u64).bits) = 4294967296 := by decide
 rw [this, Int.fdiv_eq_ediv_of_nonneg _ (by decide)]

theorem m64 {x : Int} (h0 : 0 ≤ x) (h1 : x < 18446744073709551616) : x % 18446744073709551616 = x := Int.emod_eq_of_lt h0 h1

theorem prod_bound {a b : Int} (a0 : 0 ≤ a) (a1 : a < 4294967296) (b0 : 0 ≤ b) (b1 : b < 4294967296) : 0 ≤ a * b ∧ a * b ≤ 18446744065119617025 := by
 refine ⟨Int.mul_nonneg a0 b0, ?_⟩
 have h1 : a * b ≤ 4294967295 * b := Int.mul_le_mul_of_nonneg_right (by omega) b0
 omega

theorem word_step {x n c : Int} (h0 : 0 ≤ x) (h1 : x < 18446744073709551616) (n0 : 0 ≤ n) (n1 : n < 18446744073709551616) (c0 : 0 ≤ c) (c1 : c < 18446744073709551616) :
  (x * n / 18446744073709551616 + (x * n % 18446744073709551616 + c) / 18446744073709551616) % 18446744073709551616 = (x * n + c) / 18446744073709551616 ∧ (x * n % 18446744073709551616 + c) % 18446744073709551616 = (x * n + c) % 18446744073709551616 ∧ 0 ≤ (x * n + c) / 18446744073709551616 ∧ (x * n + c) / 18446744073709551616 < 18446744073709551616 := by
 have hp : 0 ≤ x * n := Int.mul_nonneg h0 n0
 have hq : x * n ≤ 18446744073709551615 * n := Int.mul_le_mul_of_nonneg_right (by omega) n0
 have hq2 : (18446744073709551615 : Int) * n ≤ 18446744073709551615 * 18446744073709551615 := Int.mul_le_mul_of_nonneg_left (by omega) (by decide)
 have hb : x * n ≤ 340282366920938463426481119284349108225 := by
  refine Int.le_trans hq (Int.le_trans hq2 (by decide))
 generalize x * n = p at *
 omega

def p10 : Nat → Int
 | 0 => 1
 | k + 1 => p10 k * 10

theorem p10_pos : ∀ k, 1 ≤ p10 k
 | 0 => by decide
 | k + 1 => by have := p10_pos k; simp only [p10]; omega

def c3 (a b : Int) : Int := if a < b then -1 else if b < a then 1 else 0

theorem bool_ne (n m : Bool) (h : ¬ n = m) : (!(n == m)) = true ∧ (!m) = n := by revert h; cases n <;> cases m <;> simp

def dval : List Int → Int
 | [] => 0
 | d :: l => d + 10 * dval l

def digs (l : List Int) : Prop := ∀ d ∈ l, 0 ≤ d ∧ d ≤ 9

def top (l : List Int) : Prop := ∀ d, l.getLast? = some d → d ≠ 0

theorem dval_nonneg : ∀ {l : List Int}, digs l → 0 ≤ dval l
 | [], _ => by simp [dval]
 | d :: l, h => by
  have h1 := h d (by simp)
  have h2 := dval_nonneg (l := l) (fun x hx => h x (by simp [hx]))
  simp only [dval]; omega

theorem p10n : ∀ n, 0 < p10 n := fun n => by have := p10_pos n; omega

theorem dval_lt : ∀ {l : List Int}, digs l → dval l < p10 l.length
 | [], _ => by simp [dval, p10]
 | d :: l, h => by
  have h1 := h d (by simp)
  have h2 := dval_lt (l := l) (fun x hx => h x (by simp [hx]))
  simp only [dval, List.length_cons, p10]; omega

theorem dval_ge : ∀ {l : List Int}, digs l → top l → l ≠ [] → p10 (l.length - 1) ≤ dval l
 | [], _, _, h => absurd rfl h
 | [d], h, ht, _ => by
  have h1 := h d (by simp)
  have h2 := ht d (by simp)
  simp [dval, p10]; omega
 | d :: e :: l, h, ht, _ => by
  have h1 := h d (by simp)
  have h2 := dval_ge (l := e :: l) (fun x hx => h x (by simp [hx])) (fun x hx => ht x (by simpa using hx)) (by simp)
  simp only [List.length_cons] at h2 ⊢
  rw [show l.length + 1 + 1 - 1 = (l.length + 1 - 1) + 1 by omega]
  simp only [p10]
  rw [dval]
  omega

theorem p10_mono {m n : Nat} (h : m ≤ n) : p10 m ≤ p10 n := by
 induction n with
 | zero =>
   have : m = 0 := by omega
   subst this; exact Int.le_refl _
 | succ n ih =>
  by_cases e : m = n + 1
  ·subst e; exact Int.le_refl _
  ·have h1 := ih (by omega)
   have h2 := p10n n
   simp only [p10]; omega

theorem dval_append : ∀ (l m : List Int), dval (l ++ m) = dval l + p10 l.length * dval m
 | [], m => by simp [dval, p10]
 | d :: l, m => by
  simp only [List.cons_append, dval, dval_append l m, List.length_cons, p10]
  rw [Int.mul_add, ← Int.mul_assoc, Int.mul_comm 10 (p10 l.length)]; omega

theorem dval_zeros (k : Nat) : dval (List.replicate k 0) = 0 := by
 induction k with
 | zero => rfl
 | succ k ih => simp [List.replicate_succ, dval, ih]

end Go.SX.Cal
namespace Go.Proofs.YtdbfodeghijdlaaDoor
open Go Go.SX Go.SX.Cal Go.Lib
set_option linter.unusedVariables false
set_option linter.unusedSimpArgs false

theorem vtext_loop (s : ByteArray) : ∀ k i, i ≤ s.size → s.size - i < k → value_text_l1 s k i = some (first (ctl s) i s.size).isNone := by
 intro k
 induction k with
 | zero => intro i _ h; omega
 | succ k ih =>
  intro i hi hk
  rw [value_text_l1]
  by_cases h : i = s.size
  ·subst h
   rw [first_end]
   simp only [Nat.lt_irrefl, decide_false, ift_false, value_text_j3]
   rfl
  ·have hlt : i < s.size := by omega
   simp only [hlt, decide_true, ift_true, value_text_j2, ift_ite]
   by_cases hb : byt s i < 128
   ·rw [decode_lo s i hlt hb, first_step hlt]
    by_cases h1 : byt s i < 32
    ·have : ctl s i = true := by simp [ctl, h1]
     simp [this, show ((byt s i : Nat) : Int) < 32 by omega]
    ·have e1 : ¬ ((byt s i : Nat) : Int) < 32 := by omega
     by_cases h2 : byt s i = 127
     ·have : ctl s i = true := by simp [ctl, h2]
      simp [this, h2]
     ·have : ctl s i = false := by simp [ctl, h1, h2]
      have e2 : ¬ ((byt s i : Nat) : Int) = 127 := by omega
      simp only [this, Int.ofNat_eq_natCast, e1, decide_false, Bool.false_eq_true, if_false, beq_iff_eq, e2]
      exact ih (i + 1) (by omega) (by omega)
   ·have h1 := decode_hi s i hlt hb
    obtain ⟨h2, h3, h4⟩ := decode_skip s i hlt hb
    have e1 : ¬ (((Utf8.decode s i).1 : Nat) : Int) < 32 := by omega
    have e2 : ¬ (((Utf8.decode s i).1 : Nat) : Int) = 127 := by omega
    simp only [Int.ofNat_eq_natCast, e1, decide_false, Bool.false_eq_true, if_false, beq_iff_eq, e2]
    rw [ih _ h3 (by omega), first_skip _ i h3 (fun j a b => by
     have := h4 j a b
     simp only [ctl, Bool.or_eq_false_iff, decide_eq_false_iff_not, beq_eq_false_iff_ne]
     omega)]
    simp

theorem rchar_loop (s : ByteArray) (hs : s.size < 1000000000) : ∀ k i, i ≤ s.size → s.size - i < k → ref1_characters_l1 s k (i : Int) = some (first (ctl s) i s.size).isNone := by
 intro k
 induction k with
 | zero => intro i _ h; omega
 | succ k ih =>
  intro i hi hk
  rw [ref1_characters_l1]
  by_cases h : i = s.size
  ·subst h
   rw [first_end]
   simp only [Int.lt_irrefl, decide_false, ift_false, ref1_characters_j3]
   rfl
  ·have hlt : i < s.size := by omega
   have g : (0 : Int) ≤ (i : Int) ∧ (i : Int) < (s.size : Int) := ⟨by omega, by omega⟩
   have e : ((s.data.toList.getD (i : Int).toNat 0).toNat : Int) = (byt s i : Int) := by simp [byt]
   simp only [dec_lt hlt, ift_true, grd, if_pos g, bnd_some', ref1_characters_j2, ift_ite, e]
   rw [first_step hlt, wrap_succ hlt hs]
   by_cases h1 : byt s i < 32
   ·have : ctl s i = true := by simp [ctl, h1]
    simp [this, show ((byt s i : Nat) : Int) < 32 by omega]
   ·have e1 : ¬ ((byt s i : Nat) : Int) < 32 := by omega
    by_cases h2 : byt s i = 127
    ·have : ctl s i = true := by simp [ctl, h2]
     simp [this, h2]
    ·have : ctl s i = false := by simp [ctl, h1, h2]
     have e2 : ¬ ((byt s i : Nat) : Int) = 127 := by omega
     simp only [this, e1, decide_false, Bool.false_eq_true, if_false, beq_iff_eq, e2]
     exact ih (i + 1) (by omega) (by omega)

def textOk (s : ByteArray) : Bool := decide (s.size ≤ 256) && (validD s.data.toList && (first (ctl s) 0 s.size).isNone)

theorem validS (s : ByteArray) (hs : s.size < 1000000000) : utf8_ValidString s = some (validD s.data.toList) := by
 unfold utf8_ValidString grd
 rw [if_pos (by omega)]

theorem vText (s : ByteArray) (hs : s.size < 1000000000) : value_text s = some (textOk s) := by
 unfold value_text value_text_j1 textOk
 rw [validS s hs, vtext_loop s BIG 0 (by omega) (by rw [big_val]; omega)]
 by_cases h : s.size ≤ 256
 ·have : ¬ (256 : Int) < (s.size : Int) := by omega
  simp only [this, h, decide_false, decide_true, ift_false, bnd_some']
  cases validD s.data.toList <;> rfl
 ·have : (256 : Int) < (s.size : Int) := by omega
  simp only [this, h, decide_false, decide_true, ift_true]
  rfl

theorem rChars (s : ByteArray) (hs : s.size < 1000000000) : ref1_characters s = some (textOk s) := by
 have := rchar_loop s hs BIG 0 (by omega) (by rw [big_val]; omega)
 unfold ref1_characters ref1_characters_j1 textOk
 rw [validS s hs, show (0 : Int) = ((0 : Nat) : Int) from rfl, this]
 by_cases h : s.size ≤ 256
 ·have e : ¬ (256 : Int) < (s.size : Int) := by omega
  simp only [e, h, decide_false, decide_true, bnd_some']
  cases validD s.data.toList <;> rfl
 ·have e : (256 : Int) < (s.size : Int) := by omega
  simp only [e, h, decide_false, decide_true, bnd_some']
  cases validD s.data.toList <;> rfl

theorem vWithin (a b c : Int) : value_within a b c = some (decide (b ≤ a) && decide (a ≤ c)) := by
 unfold value_within value_within_j1; exact ift_and _ _
theorem rWithin (a b c : Int) : ref1_within a b c = some (decide (b ≤ a) && decide (a ≤ c)) := by
 unfold ref1_within ref1_within_j1; exact ift_and _ _

def plainOk (v : GValue) : Bool :=
 let bare := v.n == 0 && v.scale == 0
 let noS := decide (v.s.size = 0)
 let noI := ((v.items.length : Int) == 0)
 if v.kind = 0 then bare && (noS && noI)
 else if v.kind = 1 then (decide (0 ≤ v.n) && decide (v.n ≤ 1)) && (v.scale == 0 && (noS && noI))
 else if v.kind = 2 then (decide (-999999999999999999 ≤ v.n) && decide (v.n ≤ 999999999999999999)) && (v.scale == 0 && (noS && noI))
 else if v.kind = 3 then (decide (-999999999999999999 ≤ v.n) && decide (v.n ≤ 999999999999999999)) && ((decide (0 ≤ v.scale) && decide (v.scale ≤ 12)) && (noS && noI))
 else if v.kind = 4 then bare && (textOk v.s && noI)
 else if v.kind = 5 then (decide (-62135596800 ≤ v.n) && decide (v.n ≤ 253402300799)) && (v.scale == 0 && (noS && noI))
 else if v.kind = 6 then bare && (noS && decide ((v.items.length : Int) ≤ 64))
 else if v.kind = 7 then bare && (noS && decide ((0 : Int) < (v.items.length : Int)))
 else false

theorem vPlain (v : GValue) (hs : v.s.size < 1000000000) : value_plain v = some (plainOk v) := by
 have j : ∀ x, value_plain_j1 v x = some (if v.kind = 0 then x && (decide (v.s.size = 0) && ((v.items.length : Int) == 0))
   else if v.kind = 1 then (decide (0 ≤ v.n) && decide (v.n ≤ 1)) && (v.scale == 0 && (decide (v.s.size = 0) && ((v.items.length : Int) == 0)))
   else if v.kind = 2 then (decide (-999999999999999999 ≤ v.n) && decide (v.n ≤ 999999999999999999)) && (v.scale == 0 && (decide (v.s.size = 0) && ((v.items.length : Int) == 0)))
   else if v.kind = 3 then (decide (-999999999999999999 ≤ v.n) && decide (v.n ≤ 999999999999999999)) && ((decide (0 ≤ v.scale) && decide (v.scale ≤ 12)) && (decide (v.s.size = 0) && ((v.items.length : Int) == 0)))
   else if v.kind = 4 then x && (textOk v.s && ((v.items.length : Int) == 0))
   else if v.kind = 5 then (decide (-62135596800 ≤ v.n) && decide (v.n ≤ 253402300799)) && (v.scale == 0 && (decide (v.s.size = 0) && ((v.items.length : Int) == 0)))
   else if v.kind = 6 then x && (decide (v.s.size = 0) && decide ((v.items.length : Int) ≤ 64))
   else if v.kind = 7 then x && (decide (v.s.size = 0) && decide ((0 : Int) < (v.items.length : Int)))
   else false) := by
  intro x
  unfold value_plain_j1 value_plain_j2 value_plain_j3 value_plain_j4 value_plain_j5 value_plain_j6 value_plain_j7 value_plain_j8 value_plain_j9
  simp only [vWithin, vText v.s hs, bnd_some', ift_and, size_zero]
  simp only [ift_ite, beq_iff_eq]
  repeat' split
  all_goals (first | rfl | simp_all)
 unfold value_plain
 rw [j, j]
 unfold plainOk
 cases v.n == 0
 ·simp only [ift_false, Bool.false_and]
 ·simp only [ift_true, Bool.true_and]

theorem rAlone (v : GValue) (hs : v.s.size < 1000000000) : ref1_alone v = some (plainOk v) := by
 have j : ∀ x, ref1_alone_j1 v x = some (if v.kind = 0 then x && (v.n == 0 && v.scale == 0)
   else if v.kind = 1 then x && ((decide (0 ≤ v.n) && decide (v.n ≤ 1)) && v.scale == 0)
   else if v.kind = 2 then x && ((decide (-999999999999999999 ≤ v.n) && decide (v.n ≤ 999999999999999999)) && v.scale == 0)
   else if v.kind = 3 then x && ((decide (-999999999999999999 ≤ v.n) && decide (v.n ≤ 999999999999999999)) && (decide (0 ≤ v.scale) && decide (v.scale ≤ 12)))
   else if v.kind = 4 then ((v.items.length : Int) == 0) && (v.n == 0 && (v.scale == 0 && textOk v.s))
   else if v.kind = 5 then x && ((decide (-62135596800 ≤ v.n) && decide (v.n ≤ 253402300799)) && v.scale == 0)
   else if v.kind = 6 then decide (v.s.size = 0) && (v.n == 0 && (v.scale == 0 && decide ((v.items.length : Int) ≤ 64)))
   else if v.kind = 7 then decide (v.s.size = 0) && (v.n == 0 && (v.scale == 0 && decide ((0 : Int) < (v.items.length : Int))))
   else false) := by
  intro x
  unfold ref1_alone_j1 ref1_alone_j2 ref1_alone_j3 ref1_alone_j4 ref1_alone_j5 ref1_alone_j6 ref1_alone_j7 ref1_alone_j8 ref1_alone_j9
  simp only [rWithin, rChars v.s hs, bnd_some', ift_and, size_zero]
  simp only [ift_ite, beq_iff_eq]
  repeat' split
  all_goals (first | rfl | simp_all)
 unfold ref1_alone
 rw [j, j, size_zero]
 unfold plainOk
 generalize decide (v.s.size = 0) = a
 generalize ((v.items.length : Int) == 0) = b
 generalize textOk v.s = t
 generalize (v.n == 0) = c
 generalize (v.scale == 0) = d
 generalize (decide (0 ≤ v.n) && decide (v.n ≤ 1)) = e1
 generalize (decide (-999999999999999999 ≤ v.n) && decide (v.n ≤ 999999999999999999)) = e2
 generalize (decide (0 ≤ v.scale) && decide (v.scale ≤ 12)) = e3
 generalize (decide (-62135596800 ≤ v.n) && decide (v.n ≤ 253402300799)) = e4
 generalize decide ((v.items.length : Int) ≤ 64) = e5
 generalize decide ((0 : Int) < (v.items.length : Int)) = e6
 cases a <;> simp only [ift_false, ift_true] <;> congr 1 <;> repeat' split
 all_goals (first | rfl | (cases b <;> cases c <;> cases d <;> simp <;> done) | (simp [Bool.and_comm, Bool.and_assoc, Bool.and_left_comm]))

def soundL (f : GValue → Int → Bool × Int) : List GValue → Int → Bool × Int
 | [], z => (true, z)
 | v :: l, z => if (f v z).1 = true then soundL f l (f v z).2 else (false, (f v z).2)

def cnt (v : GValue) (z : Int) : Int := if v.kind = 0 then z else z + 1

def soundD : Nat → GValue → Int → Bool × Int
 | 0, v, z => (false, cnt v z)
 | d + 1, v, z => if 256 < cnt v z ∨ plainOk v = false then (false, cnt v z) else soundL (soundD d) v.items (cnt v z)

def soundB (v : GValue) : Bool := (soundD 4 v 0).1

theorem soundL_le {f : GValue → Int → Bool × Int} : ∀ {l : List GValue} {z : Int}, (∀ v ∈ l, ∀ z, 0 ≤ z → z ≤ 256 → 0 ≤ (f v z).2 ∧ (f v z).2 ≤ 257 ∧ ((f v z).1 = true → (f v z).2 ≤ 256)) → 0 ≤ z → z ≤ 256 →
  0 ≤ (soundL f l z).2 ∧ (soundL f l z).2 ≤ 257 ∧ ((soundL f l z).1 = true → (soundL f l z).2 ≤ 256)
 | [], z, _, h0, h1 => by simp only [soundL]; omega
 | v :: l, z, hf, h0, h1 => by
  obtain ⟨a, b, c⟩ := hf v (by simp) z h0 h1
  simp only [soundL]
  split
  ·rename_i h
   exact soundL_le (fun x hx => hf x (by simp [hx])) a (c h)
  ·exact ⟨a, b, fun h => by cases h⟩

theorem soundD_le : ∀ (d : Nat) (v : GValue) (z : Int), 0 ≤ z → z ≤ 256 → 0 ≤ (soundD d v z).2 ∧ (soundD d v z).2 ≤ 257 ∧ ((soundD d v z).1 = true → (soundD d v z).2 ≤ 256)
 | 0, v, z, h0, h1 => by
  have hc : z ≤ cnt v z ∧ cnt v z ≤ z + 1 := by unfold cnt; split <;> omega
  simp only [soundD]
  exact ⟨by omega, by omega, fun h => by cases h⟩
 | d + 1, v, z, h0, h1 => by
  have hc : z ≤ cnt v z ∧ cnt v z ≤ z + 1 := by unfold cnt; split <;> omega
  simp only [soundD]
  split
  ·exact ⟨by omega, by omega, fun h => by cases h⟩
  ·rename_i h
   have : ¬ 256 < cnt v z := fun e => h (.inl e)
   exact soundL_le (fun x _ => soundD_le d x) (by omega) (by omega)

theorem cnt_wrap (v : GValue) (z : Int) (h0 : 0 ≤ z) (h1 : z ≤ 256) {β : Type} (f : Int → Option β) : ift (v.kind != (0 : Int)) (f (IntKind.i64.wrap (z + 1))) (f z) = f (cnt v z) := by
 rw [w64 (by omega) (by omega)]
 unfold cnt
 by_cases h : v.kind = 0
 ·simp [h, ift_ite]
 ·simp [h, ift_ite]

theorem vsound_loop {d : Nat} (l : Int) (q : GValue → Int → Int → Option (Bool × Int)) (xs : List GValue) (hl : xs.length < 1000000000)
  (hq : ∀ v ∈ xs, ∀ z, 0 ≤ z → z ≤ 256 → q v l z = some (!(soundD d v z).1, (soundD d v z).2)) : ∀ (k i : Nat) (z : Int), i ≤ xs.length → xs.length - i < k → 0 ≤ z → z ≤ 256 →
  ∃ r : Int, slices_IndexFunc_api_Value_api_Value_of_value_sound_1_l1 q xs l k z (i : Int) = some (r, (soundL (soundD d) (xs.drop i) z).2) ∧ decide (0 ≤ r) = !(soundL (soundD d) (xs.drop i) z).1 := by
 intro k
 induction k with
 | zero => intro i z _ h; omega
 | succ k ih =>
  intro i z hi hk h0 h1
  rw [slices_IndexFunc_api_Value_api_Value_of_value_sound_1_l1]
  by_cases h : i = xs.length
  ·subst h
   simp only [Int.lt_irrefl, decide_false, ift_false, List.drop_length, soundL, slices_IndexFunc_api_Value_api_Value_of_value_sound_1_j1]
   exact ⟨-1, rfl, rfl⟩
  ·have hlt : i < xs.length := by omega
   have hm : xs[i] ∈ xs := List.getElem_mem hlt
   simp only [dec_lt hlt, ift_true, at_nat hlt, bnd_some', hq _ hm z h0 h1]
   rw [List.drop_eq_getElem_cons hlt]
   simp only [soundL]
   obtain ⟨a, b, c⟩ := soundD_le d xs[i] z h0 h1
   cases hs : (soundD d xs[i] z).1 with
   | false =>
    simp only [Bool.not_false, ift_true, Bool.false_eq_true, if_false]
    exact ⟨_, rfl, by simp⟩
   | true =>
    simp only [Bool.not_true, ift_false, if_true]
    rw [wrap_succ hlt hl]
    exact ih (i + 1) _ (by omega) (by omega) a (c hs)

theorem vsound_eq : ∀ (d k : Nat) (v : GValue) (z : Int), d ≤ 4 → 4 * d + 4 ≤ k → sizeV v < 1000000000 → 0 ≤ z → z ≤ 256 → value_sound k v (5 - d : Int) z = some (soundD d v z) := by
 intro d
 induction d with
 | zero =>
  intro k v z _ hk hs h0 h1
  obtain ⟨k, rfl⟩ : ∃ q, k = q + 1 := ⟨k - 1, by omega⟩
  rw [value_sound, cnt_wrap v z h0 h1]
  unfold value_sound_j1 value_sound_j2
  simp [soundD, ift_true]
 | succ d ih =>
  intro k v z hd hk hs h0 h1
  obtain ⟨k, rfl⟩ : ∃ q, k = q + 4 := ⟨k - 4, by omega⟩
  have hsz := sizeV_eq v
  have hlen := sizeL_len v.items
  rw [value_sound, cnt_wrap v z h0 h1]
  unfold value_sound_j1 value_sound_j2
  rw [vPlain v (by omega)]
  have e4 : ¬ (4 : Int) < 5 - ((d + 1 : Nat) : Int) := by omega
  have hc : z ≤ cnt v z ∧ cnt v z ≤ z + 1 := by unfold cnt; split <;> omega
  simp only [e4, decide_false, ift_false, soundD, bnd_some']
  by_cases h2 : (256 : Int) < cnt v z
  ·simp [h2, ift_true]
  ·cases hp : plainOk v with
   | false => simp [h2, ift_true, ift_false]
   | true =>
    simp only [h2, decide_false, ift_false, Bool.not_true, false_or, Bool.true_eq_false, if_false]
    have := vsound_loop (d := d) (5 - ((d + 1 : Nat) : Int)) (value_sound_1_s (k + 1)) v.items (by omega) (by
     intro x hx z h0 h1
     have := sizeL_mem hx
     rw [value_sound_1_s, w64 (by omega) (by omega), show (5 - ((d + 1 : Nat) : Int) + 1) = 5 - (d : Int) by omega, ih k x z (by omega) (by omega) (by omega) h0 h1]
     rfl) BIG 0 (cnt v z) (by omega) (by rw [big_val]; omega) (by omega) (by omega)
    obtain ⟨r, e1, e2⟩ := this
    rw [show ((0 : Nat) : Int) = (0 : Int) from rfl] at e1
    rw [slices_ContainsFunc_api_Value_api_Value_of_value_sound_1, slices_IndexFunc_api_Value_api_Value_of_value_sound_1, e1]
    simp only [bnd_some', e2, List.drop_zero, Bool.not_not]

theorem vSound (v : GValue) (hs : sizeV v < 1000000000) : value_Sound v = some (soundB v) := by
 unfold value_Sound soundB
 have := vsound_eq 4 BIG v 0 (by omega) (by rw [big_val]; omega) hs (by omega) (by omega)
 rw [show (5 - ((4 : Nat) : Int)) = (1 : Int) from rfl] at this
 rw [this]; rfl

theorem rsound_loop {d : Nat} (l : Int) (hl0 : 0 ≤ l) (hl1 : l ≤ 100) (q : GValue → Int → Int → Option (Bool × Int)) (v : GValue) (hl : v.items.length < 1000000000)
  (hq : ∀ x ∈ v.items, ∀ z, 0 ≤ z → z ≤ 256 → q x (l + 1) z = some (soundD d x z)) : ∀ (k i : Nat) (z : Int), i ≤ v.items.length → v.items.length - i < k → 0 ≤ z → z ≤ 256 →
  ref1_sound_l1 q v l k z (i : Int) = some (soundL (soundD d) (v.items.drop i) z) := by
 intro k
 induction k with
 | zero => intro i z _ h; omega
 | succ k ih =>
  intro i z hi hk h0 h1
  rw [ref1_sound_l1]
  by_cases h : i = v.items.length
  ·subst h
   simp only [Int.lt_irrefl, decide_false, ift_false, List.drop_length, soundL, ref1_sound_j3]
  ·have hlt : i < v.items.length := by omega
   have hm : v.items[i] ∈ v.items := List.getElem_mem hlt
   rw [w64 (x := l + 1) (by omega) (by omega)]
   simp only [dec_lt hlt, ift_true, at_nat hlt, bnd_some', hq _ hm z h0 h1]
   rw [List.drop_eq_getElem_cons hlt]
   simp only [soundL]
   obtain ⟨a, b, c⟩ := soundD_le d v.items[i] z h0 h1
   cases hs : (soundD d v.items[i] z).1 with
   | false => simp only [Bool.not_false, ift_true, Bool.false_eq_true, if_false]
   | true =>
    simp only [Bool.not_true, ift_false, if_true]
    rw [wrap_succ hlt hl]
    exact ih (i + 1) _ (by omega) (by omega) a (c hs)

theorem rsound_eq : ∀ (d k : Nat) (v : GValue) (z : Int), d ≤ 4 → d + 1 ≤ k → sizeV v < 1000000000 → 0 ≤ z → z ≤ 256 → ref1_sound k v (5 - d : Int) z = some (soundD d v z) := by
 intro d
 induction d with
 | zero =>
  intro k v z _ hk hs h0 h1
  obtain ⟨k, rfl⟩ : ∃ q, k = q + 1 := ⟨k - 1, by omega⟩
  rw [ref1_sound, cnt_wrap v z h0 h1]
  unfold ref1_sound_j1 ref1_sound_j2
  simp [soundD, ift_true]
 | succ d ih =>
  intro k v z hd hk hs h0 h1
  obtain ⟨k, rfl⟩ : ∃ q, k = q + 1 := ⟨k - 1, by omega⟩
  have hsz := sizeV_eq v
  have hlen := sizeL_len v.items
  rw [ref1_sound, cnt_wrap v z h0 h1]
  unfold ref1_sound_j1 ref1_sound_j2
  rw [rAlone v (by omega)]
  have e4 : ¬ (4 : Int) < 5 - ((d + 1 : Nat) : Int) := by omega
  have hc : z ≤ cnt v z ∧ cnt v z ≤ z + 1 := by unfold cnt; split <;> omega
  simp only [e4, decide_false, ift_false, soundD, bnd_some']
  by_cases h2 : (256 : Int) < cnt v z
  ·simp [h2, ift_true]
  ·cases hp : plainOk v with
   | false => simp [h2, ift_true, ift_false]
   | true =>
    simp only [h2, decide_false, ift_false, Bool.not_true, false_or, Bool.true_eq_false, if_false]
    have := rsound_loop (d := d) (5 - ((d + 1 : Nat) : Int)) (by omega) (by omega) (ref1_sound k) v (by omega) (by
     intro x hx z h0 h1
     have := sizeL_mem hx
     rw [show (5 - ((d + 1 : Nat) : Int) + 1) = 5 - (d : Int) by omega]
     exact ih k x z (by omega) (by omega) (by omega) h0 h1) BIG 0 (cnt v z) (by omega) (by rw [big_val]; omega) (by omega) (by omega)
    rw [show ((0 : Nat) : Int) = (0 : Int) from rfl, List.drop_zero] at this
    exact this

theorem rSound (v : GValue) (hs : sizeV v < 1000000000) : ref1_Sound v = some (soundB v) := by
 unfold ref1_Sound soundB
 have := rsound_eq 4 BIG v 0 (by omega) (by rw [big_val]; omega) hs (by omega) (by omega)
 rw [show (5 - ((4 : Nat) : Int)) = (1 : Int) from rfl] at this
 rw [this]; rfl

end Go.Proofs.YtdbfodeghijdlaaDoor
namespace Go.Proofs.YtdbfodeghijdlaaDoor
open Go Go.SX Go.SX.Cal
set_option linter.unusedVariables false

theorem sizeL_sum : ∀ l : List GValue, sizeL l = (l.map sizeV).sum
 | [] => by simp [sizeL]
 | x :: l => by simp [sizeL, sizeL_sum l]

theorem sz_mk (k n sc : Int) (s : ByteArray) (it : List GValue) : sizeV ⟨k, n, sc, s, it⟩ ≤ s.size + (it.map sizeV).sum + 6 := by
 simp only [sizeV, sizeL_sum]; omega

end Go.Proofs.YtdbfodeghijdlaaDoor
namespace Go.Proofs.YtdbfodeghijdlaaDoor
open Go Go.SX Go.SX.Cal Go.Lib
set_option linter.unusedVariables false
set_option linter.unusedSimpArgs false

theorem c3_self (a : Int) : c3 a a = 0 := by unfold c3; rw [if_neg (by omega), if_neg (by omega)]

theorem most_loop {a b : List Int} (ha : digs a) (hb : digs b) (hl : a.length = b.length) (hbig : a.length < 1000000) : ∀ (k i : Nat), i ≤ a.length → i < k → dval (a.drop i) = dval (b.drop i) →
  ∃ r, ref1_most_l1 a b k ((i : Int) - 1) = some r ∧ -9 ≤ r ∧ r ≤ 9 ∧ c3 r 0 = c3 (dval a) (dval b) := by
 intro k
 induction k with
 | zero => intro i h1 h2; omega
 | succ k ih =>
  intro i h1 h2 he
  rw [ref1_most_l1]
  cases i with
  | zero =>
   rw [show decide ((0 : Int) ≤ ((0 : Nat) : Int) - 1) = false from rfl, ift_false]
   simp only [List.drop_zero] at he
   exact ⟨0, rfl, by omega, by omega, by rw [he, c3_self, c3_self]⟩
  | succ i =>
   have hia : i < a.length := by omega
   have hib : i < b.length := by omega
   have e1 : ((i + 1 : Nat) : Int) - 1 = (i : Int) := by omega
   have aa : at? a (i : Int) = some a[i] := by unfold at?; simp [hia]
   have bb : at? b (i : Int) = some b[i] := by unfold at?; simp [hib]
   rw [e1, show decide ((0 : Int) ≤ (i : Int)) = true by simp, ift_true, aa, bb]
   simp only [bnd_eq]
   have da : a.drop i = a[i] :: a.drop (i + 1) := List.drop_eq_getElem_cons hia
   have db : b.drop i = b[i] :: b.drop (i + 1) := List.drop_eq_getElem_cons hib
   have ra := ha a[i] (List.getElem_mem hia)
   have rb := hb b[i] (List.getElem_mem hib)
   by_cases hne : a[i] = b[i]
   ·rw [show (a[i] != b[i]) = false by simp [hne], ift_false, w64 (by omega) (by omega)]
    refine ih i (by omega) (by omega) ?_
    rw [da, db]; simp only [dval]; omega
   ·rw [show (a[i] != b[i]) = true by simp [hne], ift_true, w64 (by omega) (by omega)]
    refine ⟨_, rfl, by omega, by omega, ?_⟩
    have va : dval a = dval (a.take i) + p10 i * dval (a.drop i) := by
     have := dval_append (a.take i) (a.drop i)
     rw [List.take_append_drop, List.length_take, Nat.min_eq_left (by omega)] at this
     exact this
    have vb : dval b = dval (b.take i) + p10 i * dval (b.drop i) := by
     have := dval_append (b.take i) (b.drop i)
     rw [List.take_append_drop, List.length_take, Nat.min_eq_left (by omega)] at this
     exact this
    have la := dval_lt (l := a.take i) (fun x hx => ha x (List.mem_of_mem_take hx))
    have lb := dval_lt (l := b.take i) (fun x hx => hb x (List.mem_of_mem_take hx))
    have na := dval_nonneg (l := a.take i) (fun x hx => ha x (List.mem_of_mem_take hx))
    have nb := dval_nonneg (l := b.take i) (fun x hx => hb x (List.mem_of_mem_take hx))
    rw [List.length_take, Nat.min_eq_left (by omega)] at la lb
    rw [da] at va; rw [db] at vb
    simp only [dval] at va vb
    have hp := p10n i
    have key : p10 i * (a[i] + 10 * dval (a.drop (i + 1))) - p10 i * (b[i] + 10 * dval (b.drop (i + 1))) = p10 i * (a[i] - b[i]) := by
     rw [← Int.mul_sub, he]; congr 1; omega
    unfold c3
    rcases Int.lt_or_gt_of_ne hne with hlt | hgt
    ·have : p10 i * (a[i] - b[i]) ≤ p10 i * (-1) := Int.mul_le_mul_of_nonneg_left (by omega) (by omega)
     rw [if_pos (by omega), if_pos (by omega)]
    ·have : p10 i * 1 ≤ p10 i * (a[i] - b[i]) := Int.mul_le_mul_of_nonneg_left (by omega) (by omega)
     rw [if_neg (by omega), if_pos (by omega), if_neg (by omega), if_pos (by omega)]

theorem most_eq {a b : List Int} (ha : digs a) (hb : digs b) (ta : top a) (tb : top b) (la : a.length < 1000) (lb : b.length < 1000) : ∃ r, ref1_most a b = some r ∧ -1000 ≤ r ∧ r ≤ 1000 ∧ c3 r 0 = c3 (dval a) (dval b) := by
 unfold ref1_most
 by_cases hl : a.length = b.length
 ·rw [show ((a.length : Int) != (b.length : Int)) = false by simp [hl], ift_false, w64 (by omega) (by omega)]
  obtain ⟨r, h1, h2, h3, h4⟩ := most_loop ha hb hl (by omega) BIG a.length (Nat.le_refl _) (by rw [big_val]; omega) (by rw [List.drop_length, hl, List.drop_length])
  exact ⟨r, h1, by omega, by omega, h4⟩
 ·have hne : ((a.length : Int) != (b.length : Int)) = true := by simp; omega
  rw [hne, ift_true, w64 (by omega) (by omega)]
  refine ⟨_, rfl, by omega, by omega, ?_⟩
  have l1 := dval_lt ha
  have l2 := dval_lt hb
  rcases Nat.lt_or_gt_of_ne hl with h | h
  ·have g := dval_ge hb tb (by rintro rfl; simp at h)
   have := p10_mono (show a.length ≤ b.length - 1 by omega)
   unfold c3; rw [if_pos (by omega), if_pos (by omega)]
  ·have g := dval_ge ha ta (by rintro rfl; simp at h)
   have := p10_mono (show b.length ≤ a.length - 1 by omega)
   unfold c3; rw [if_neg (by omega), if_pos (by omega), if_neg (by omega), if_pos (by omega)]

theorem digs_nil : digs [] := fun _ h => by cases h
theorem top_nil : top [] := fun _ h => by cases h
theorem digs_snoc {l : List Int} {x : Int} (h : digs l) (h0 : 0 ≤ x) (h1 : x ≤ 9) : digs (l ++ [x]) := by
 intro d hd
 rcases List.mem_append.1 hd with hd | hd
 ·exact h d hd
 ·simp at hd; subst hd; exact ⟨h0, h1⟩
theorem digs_of_snoc {l : List Int} {x : Int} (h : digs (l ++ [x])) : digs l ∧ 0 ≤ x ∧ x ≤ 9 :=
 ⟨fun d hd => h d (List.mem_append.2 (.inl hd)), h x (by simp)⟩
theorem top_snoc {l : List Int} {x : Int} (h : x ≠ 0) : top (l ++ [x]) := by
 intro d hd
 simp at hd
 subst hd; exact h
theorem digs_cons {l : List Int} {x : Int} (h : digs l) (h0 : 0 ≤ x) (h1 : x ≤ 9) : digs (x :: l) := by
 intro d hd
 rcases List.mem_cons.1 hd with rfl | hd
 ·exact ⟨h0, h1⟩
 ·exact h d hd

theorem cut_loop (b : Bool) : ∀ (k : Nat) (d : List Int), d.length < k → d.length < 1000000 → digs d →
  ∃ d', ref1_cut_l1 b k d = some ⟨b && decide (0 < d'.length), d'⟩ ∧ digs d' ∧ top d' ∧ dval d' = dval d ∧ d'.length ≤ d.length := by
 intro k
 induction k with
 | zero => intro d h; omega
 | succ k ih =>
  intro d hk hl hd
  rw [ref1_cut_l1]
  have fin : ∀ x : List Int, ref1_cut_j1 (ref1_cut_l1 b k) b x false = some ⟨b && decide (0 < x.length), x⟩ := by
   intro x
   unfold ref1_cut_j1 ref1_cut_j2 ref1_cut_j3
   cases b <;> simp [ift_ite]
  rcases List.eq_nil_or_concat d with rfl | ⟨l, x, rfl⟩
  ·rw [show decide ((0 : Int) < (([] : List Int).length : Int)) = false from rfl, ift_false, fin]
   exact ⟨[], rfl, digs_nil, top_nil, rfl, Nat.le_refl _⟩
  ·rw [List.concat_eq_append] at *
   have hlen : (l ++ [x]).length = l.length + 1 := by simp
   have e1 : IntKind.i64.wrap (((l ++ [x]).length : Int) - 1) = (l.length : Int) := by rw [hlen, w64 (by omega) (by omega)]; omega
   have e2 : at? (l ++ [x]) (l.length : Int) = some x := by unfold at?; simp
   obtain ⟨dl, x0, x9⟩ := digs_of_snoc hd
   rw [show decide ((0 : Int) < ((l ++ [x]).length : Int)) = true by simp, ift_true, e1, e2, bnd_some']
   by_cases hx : x = 0
   ·subst hx
    rw [show ((0 : Int) == 0) = true from rfl]
    unfold ref1_cut_j1
    rw [ift_true, e1]
    unfold grd
    rw [if_pos (by omega)]
    have e3 : ((l ++ [(0 : Int)]).drop (0 : Int).toNat).take ((l.length : Int).toNat - (0 : Int).toNat) = l := by simp
    rw [e3]
    obtain ⟨d', h1, h2, h3, h4, h5⟩ := ih l (by omega) (by omega) dl
    refine ⟨d', h1, h2, h3, ?_, by omega⟩
    rw [h4, dval_append]; simp [dval]
   ·rw [show (x == 0) = false by simp [hx], fin]
    exact ⟨_, rfl, hd, top_snoc hx, rfl, Nat.le_refl _⟩

theorem cut_eq (b : Bool) (d : List Int) (hl : d.length < 1000000) (hd : digs d) :
  ∃ d', ref1_cut b d = some ⟨b && decide (0 < d'.length), d'⟩ ∧ digs d' ∧ top d' ∧ dval d' = dval d ∧ d'.length ≤ d.length := by
 unfold ref1_cut
 exact cut_loop b BIG d (by rw [big_val]; omega) hl hd

def dig (a : List Int) (i : Nat) : Int := a.getD i 0

theorem dig_at {a : List Int} {i : Nat} (h : i < a.length) : a[i] = dig a i := by simp [dig, h]
theorem dig_out {a : List Int} {i : Nat} (h : a.length ≤ i) : dig a i = 0 := by simp [dig, h]
theorem dig_range {a : List Int} (ha : digs a) (i : Nat) : 0 ≤ dig a i ∧ dig a i ≤ 9 := by
 by_cases h : i < a.length
 ·rw [← dig_at h]; exact ha _ (List.getElem_mem h)
 ·rw [dig_out (by omega)]; omega
theorem dig_top {a : List Int} (ta : top a) {i : Nat} (h : i + 1 = a.length) : dig a i ≠ 0 := by
 have hi : i < a.length := by omega
 rw [← dig_at hi]
 refine ta _ ?_
 rw [List.getLast?_eq_getElem?, show a.length - 1 = i by omega, List.getElem?_eq_getElem hi]

theorem take_val (a : List Int) (i : Nat) : dval (a.take (i + 1)) = dval (a.take i) + p10 i * dig a i := by
 by_cases h : i < a.length
 ·rw [List.take_succ_eq_append_getElem h, dval_append, List.length_take, Nat.min_eq_left (by omega), dig_at h]
  simp [dval]
 ·rw [dig_out (by omega), List.take_of_length_le (by omega), List.take_of_length_le (by omega)]; simp

theorem tdiv10 {n : Int} (h0 : 0 ≤ n) : n.tdiv 10 = n / 10 := Int.tdiv_eq_ediv_of_nonneg h0
theorem tmod10 {n : Int} (h0 : 0 ≤ n) : n.tmod 10 = n % 10 := Int.tmod_eq_emod_of_nonneg h0

theorem plus_step {a b : List Int} (ha : digs a) (hb : digs b) (la : a.length < 1000000) (lb : b.length < 1000000) (k i : Nat) (l : List Int) (c : Int) (hl : l.length = i) (hi : i < 1000002) (c0 : 0 ≤ c) (c1 : c ≤ 1)
  (hc : i < a.length ∨ i < b.length ∨ 0 < c) :
  ref1_plus_l1 a b (k + 1) l c (i : Int) = ref1_plus_l1 a b k (l ++ [(c + dig a i + dig b i) % 10]) ((c + dig a i + dig b i) / 10) ((i + 1 : Nat) : Int) := by
 obtain ⟨a0, a9⟩ := dig_range ha i
 obtain ⟨b0, b9⟩ := dig_range hb i
 have j3 : ∀ n : Int, n = c + dig a i + dig b i → ref1_plus_j3 (ref1_plus_l1 a b k) l (i : Int) n = ref1_plus_l1 a b k (l ++ [(c + dig a i + dig b i) % 10]) ((c + dig a i + dig b i) / 10) ((i + 1 : Nat) : Int) := by
  rintro n rfl
  unfold ref1_plus_j3 grd
  rw [if_pos (by omega), tdiv10 (by omega), tmod10 (by omega), w64 (x := (c + dig a i + dig b i) / 10) (by omega) (by omega), w64 (by omega) (by omega), show (i : Int) + 1 = ((i + 1 : Nat) : Int) by omega]
 have j2 : ref1_plus_j2 (ref1_plus_l1 a b k) b l (i : Int) (c + dig a i) = ref1_plus_l1 a b k (l ++ [(c + dig a i + dig b i) % 10]) ((c + dig a i + dig b i) / 10) ((i + 1 : Nat) : Int) := by
  unfold ref1_plus_j2
  by_cases h : i < b.length
  ·rw [dec_lt h, ift_true, at_nat h, bnd_some', dig_at h, w64 (by omega) (by omega)]
   exact j3 _ rfl
  ·rw [show decide ((i : Int) < (b.length : Int)) = false by simp; omega, ift_false]
   exact j3 _ (by rw [dig_out (a := b) (by omega)]; omega)
 have j1 : ref1_plus_j1 (ref1_plus_l1 a b k) a b l c (i : Int) true = ref1_plus_l1 a b k (l ++ [(c + dig a i + dig b i) % 10]) ((c + dig a i + dig b i) / 10) ((i + 1 : Nat) : Int) := by
  unfold ref1_plus_j1
  rw [ift_true]
  by_cases h : i < a.length
  ·rw [dec_lt h, ift_true, at_nat h, bnd_some', dig_at h, w64 (by omega) (by omega)]
   exact j2
  ·rw [show decide ((i : Int) < (a.length : Int)) = false by simp; omega, ift_false]
   have e : c + dig a i = c := by rw [dig_out (by omega)]; omega
   rw [e] at j2 ⊢
   exact j2
 rw [ref1_plus_l1]
 by_cases h : i < a.length
 ·rw [dec_lt h, ift_true]; exact j1
 ·rw [show decide ((i : Int) < (a.length : Int)) = false by simp; omega, ift_false]
  by_cases h' : i < b.length
  ·rw [dec_lt h', ift_true]; exact j1
  ·rw [show decide ((i : Int) < (b.length : Int)) = false by simp; omega, ift_false, show decide ((0 : Int) < c) = true by simp; omega]; exact j1

theorem plus_loop {a b : List Int} (ha : digs a) (hb : digs b) (ta : top a) (tb : top b) (la : a.length < 1000) (lb : b.length < 1000) : ∀ (k i : Nat) (l : List Int) (c : Int),
  l.length = i → digs l → 0 ≤ c → c ≤ 1 → i ≤ max a.length b.length + 1 → (i = max a.length b.length + 1 → c = 0) → max a.length b.length + 1 - i < k →
  dval l + p10 i * c = dval (a.take i) + dval (b.take i) → (i < a.length ∨ i < b.length ∨ 0 < c ∨ top l) →
  ∃ r, ref1_plus_l1 a b k l c (i : Int) = some r ∧ digs r ∧ top r ∧ dval r = dval a + dval b ∧ r.length ≤ max a.length b.length + 1 := by
 intro k
 induction k with
 | zero => intro i l c _ _ _ _ _ _ h; omega
 | succ k ih =>
  intro i l c hl dl c0 c1 hi hlast hk hv ht
  by_cases hc : i < a.length ∨ i < b.length ∨ 0 < c
  ·rw [plus_step ha hb (by omega) (by omega) k i l c hl (by omega) c0 c1 hc]
   obtain ⟨a0, a9⟩ := dig_range ha i
   obtain ⟨b0, b9⟩ := dig_range hb i
   have hi' : i ≤ max a.length b.length := by
    by_cases e : i = max a.length b.length + 1
    ·have := hlast e; omega
    ·omega
   refine ih (i + 1) _ _ (by simp [hl]) (digs_snoc dl (by omega) (by omega)) (by omega) (by omega) (by omega) (fun e => ?_) (by omega) ?_ ?_
   ·have e1 : dig a i = 0 := dig_out (by omega)
    have e2 : dig b i = 0 := dig_out (by omega)
    omega
   ·rw [take_val, take_val, dval_append, hl]
    simp only [dval, p10]
    have e : p10 i * ((c + dig a i + dig b i) % 10 + 10 * 0) + p10 i * 10 * ((c + dig a i + dig b i) / 10) = p10 i * (c + dig a i + dig b i) := by
     rw [Int.mul_assoc, ← Int.mul_add]; congr 1; omega
    have e2 : p10 i * (c + dig a i + dig b i) = p10 i * c + p10 i * dig a i + p10 i * dig b i := by rw [Int.mul_add, Int.mul_add]
    omega
   ·by_cases h1 : i + 1 < a.length ∨ i + 1 < b.length ∨ 0 < (c + dig a i + dig b i) / 10
    ·rcases h1 with h1 | h1 | h1
     ·exact .inl h1
     ·exact .inr (.inl h1)
     ·exact .inr (.inr (.inl h1))
    ·refine .inr (.inr (.inr (top_snoc ?_)))
     rcases hc with hc | hc | hc
     ·have := dig_top ta (i := i) (by omega); omega
     ·have := dig_top tb (i := i) (by omega); omega
     ·omega
  ·have hc0 : c = 0 := by omega
   subst hc0
   rw [ref1_plus_l1, show decide ((i : Int) < (a.length : Int)) = false by simp; omega, show decide ((i : Int) < (b.length : Int)) = false by simp; omega, ift_false, ift_false]
   refine ⟨l, rfl, dl, ?_, ?_, by omega⟩
   ·rcases ht with h | h | h | h
    ·omega
    ·omega
    ·omega
    ·exact h
   ·rw [List.take_of_length_le (by omega), List.take_of_length_le (by omega)] at hv
    simpa using hv

theorem plus_eq {a b : List Int} (ha : digs a) (hb : digs b) (ta : top a) (tb : top b) (la : a.length < 1000) (lb : b.length < 1000) :
  ∃ r, ref1_plus a b = some r ∧ digs r ∧ top r ∧ dval r = dval a + dval b ∧ r.length ≤ max a.length b.length + 1 := by
 unfold ref1_plus
 exact plus_loop ha hb ta tb la lb BIG 0 [] 0 rfl digs_nil (by omega) (by omega) (by omega) (fun _ => rfl) (by rw [big_val]; omega) (by simp [dval]) (.inr (.inr (.inr top_nil)))

end Go.Proofs.YtdbfodeghijdlaaDoor
namespace Go.Proofs.YtdbfodeghijdlaaDoor
open Go Go.SX Go.SX.Cal Go.Lib
set_option linter.unusedVariables false
set_option linter.unusedSimpArgs false

theorem grd_pos {β : Type} {p : Prop} [Decidable p] {x : Option β} (h : p) : grd p x = x := if_pos h

def ab (n : Int) : Int := if n < 0 then -n else n

theorem digs_app {l : List Int} {x : Int} (h : digs l) (hx : 0 ≤ x ∧ x ≤ 9) : digs (l ++ [x]) := by
 intro d hd
 rcases List.mem_append.1 hd with h1 | h1
 ·exact h d h1
 ·simp at h1; subst h1; exact hx

theorem wideOf_loop {n : Int} (hn0 : -9223372036854775808 ≤ n) (hn1 : n ≤ 9223372036854775807) : ∀ (k : Nat) (l : List Int) (m : Int), l.length ≤ 19 → 19 - l.length < k → digs l → (m = 0 → top l) → ab m < p10 (19 - l.length) → -9223372036854775808 ≤ m → m ≤ 9223372036854775807 → ab n = dval l + p10 l.length * ab m →
  ∃ d, ref1_wideOf_l1 n k l m = some ⟨decide (n < 0), d⟩ ∧ digs d ∧ top d ∧ d.length ≤ 19 ∧ dval d = ab n := by
 intro k
 induction k with
 | zero => intro l m h1 h2; omega
 | succ k ih =>
  intro l m hl hk hd ht hm m0 m1 hv
  rw [ref1_wideOf_l1]
  by_cases h0 : m = 0
  ·subst h0
   rw [show ((0 : Int) != 0) = false from rfl, ift_false]
   exact ⟨l, rfl, hd, ht rfl, hl, by simp [ab] at hv ⊢; omega⟩
  ·have hlen : l.length < 19 := by
    apply Classical.byContradiction
    intro hn
    have : l.length = 19 := by omega
    rw [this] at hm
    simp only [Nat.sub_self, p10] at hm
    unfold ab at hm; split at hm <;> omega
   rw [show (m != 0) = true by simp [h0], ift_true]
   have hq : m.tdiv 10 = if m < 0 then -((-m) / 10) else m / 10 := by
    by_cases hneg : m < 0
    ·rw [if_pos hneg]
     have : m = -(-m) := by omega
     rw [this, Int.neg_tdiv, Int.neg_neg, Int.tdiv_eq_ediv_of_nonneg (by omega)]
    ·rw [if_neg hneg, Int.tdiv_eq_ediv_of_nonneg (by omega)]
   have hr : m.tmod 10 = if m < 0 then -((-m) % 10) else m % 10 := by
    by_cases hneg : m < 0
    ·rw [if_pos hneg]
     have : m = -(-m) := by omega
     rw [this, Int.neg_tmod, Int.neg_neg, Int.tmod_eq_emod_of_nonneg (by omega)]
    ·rw [if_neg hneg, Int.tmod_eq_emod_of_nonneg (by omega)]
   have step : ∀ x, x = ab m % 10 → ref1_wideOf_j1 (ref1_wideOf_l1 n k) l m x = ref1_wideOf_l1 n k (l ++ [ab m % 10]) (m.tdiv 10) := by
    intro x hx
    unfold ref1_wideOf_j1
    rw [grd_pos (by omega), hx, w64 (by rw [hq]; split <;> omega) (by rw [hq]; split <;> omega)]
   have hgo : ref1_wideOf_l1 n k (l ++ [ab m % 10]) (m.tdiv 10) = ref1_wideOf_l1 n k (l ++ [ab m % 10]) (m.tdiv 10) := rfl
   have habq : ab (m.tdiv 10) = ab m / 10 := by
    rw [hq]; unfold ab
    by_cases hneg : m < 0
    ·simp only [hneg, if_true]; split <;> omega
    ·simp only [hneg, if_false]; split <;> omega
   have hab0 : 0 ≤ ab m := by unfold ab; split <;> omega
   have hp : p10 (19 - l.length) = p10 (19 - (l ++ [ab m % 10]).length) * 10 := by
    rw [show 19 - l.length = (19 - (l ++ [ab m % 10]).length) + 1 by simp; omega]; rfl
   have nxt := ih (l ++ [ab m % 10]) (m.tdiv 10) (by simp; omega) (by simp; omega) (digs_app hd (by omega)) (fun hz => by
     intro d hdl
     simp at hdl
     subst hdl
     have h1 : ab m / 10 = 0 := by rw [← habq, hz]; rfl
     have h2 : ab m ≠ 0 := by unfold ab; split <;> omega
     omega) (by rw [habq]; rw [hp] at hm; omega) (by rw [hq]; split <;> omega) (by rw [hq]; split <;> omega) (by
     rw [dval_append, List.length_append, List.length_singleton, habq, hv]
     simp only [dval, p10]
     have e : ab m = ab m % 10 + 10 * (ab m / 10) := by omega
     have e2 : p10 l.length * ab m = p10 l.length * (ab m % 10) + p10 l.length * 10 * (ab m / 10) := by
      rw [Int.mul_assoc, ← Int.mul_add, ← e]
     rw [e2]; simp only [Int.mul_zero, Int.add_zero]; omega)
   by_cases hneg : m.tmod 10 < 0
   ·rw [show decide (m.tmod 10 < 0) = true by simpa using hneg, ift_true]
    have hx : IntKind.i64.wrap (0 - m.tmod 10) = ab m % 10 := by
     rw [w64 (by rw [hr]; split <;> omega) (by rw [hr]; split <;> omega)]
     rw [hr] at hneg ⊢
     unfold ab
     by_cases h : m < 0
     ·simp only [h, if_true]; omega
     ·simp only [h, if_false] at hneg; omega
    rw [step _ hx]; exact nxt
   ·rw [show decide (m.tmod 10 < 0) = false by simpa using hneg, ift_false]
    have hx : m.tmod 10 = ab m % 10 := by
     rw [hr] at hneg ⊢
     unfold ab
     by_cases h : m < 0
     ·simp only [h, if_true] at hneg ⊢; omega
     ·simp only [h, if_false]
    rw [step _ hx]; exact nxt

theorem minus_step {a b : List Int} (ha : digs a) (hb : digs b) (la : a.length < 1000000) (k i : Nat) (l : List Int) (c : Int) (hl : l.length = i) (c0 : 0 ≤ c) (c1 : c ≤ 1) (hi : i < a.length) :
  ref1_minus_l1 a b (k + 1) l c (i : Int) = if dig a i - c - dig b i < 0 then ref1_minus_l1 a b k (l ++ [dig a i - c - dig b i + 10]) 1 ((i + 1 : Nat) : Int) else ref1_minus_l1 a b k (l ++ [dig a i - c - dig b i]) 0 ((i + 1 : Nat) : Int) := by
 obtain ⟨a0, a9⟩ := dig_range ha i
 obtain ⟨b0, b9⟩ := dig_range hb i
 have j1 : ∀ n : Int, n = dig a i - c - dig b i → ref1_minus_j1 (ref1_minus_l1 a b k) l (i : Int) n = if dig a i - c - dig b i < 0 then ref1_minus_l1 a b k (l ++ [dig a i - c - dig b i + 10]) 1 ((i + 1 : Nat) : Int) else ref1_minus_l1 a b k (l ++ [dig a i - c - dig b i]) 0 ((i + 1 : Nat) : Int) := by
  rintro n rfl
  unfold ref1_minus_j1 ref1_minus_j2
  rw [grd_pos (by omega), grd_pos (by omega), w64 (x := (i : Int) + 1) (by omega) (by omega), show (i : Int) + 1 = ((i + 1 : Nat) : Int) by omega]
  by_cases h : dig a i - c - dig b i < 0
  ·rw [show decide (dig a i - c - dig b i < 0) = true by simpa using h, ift_true, if_pos h, w64 (by omega) (by omega)]
  ·rw [show decide (dig a i - c - dig b i < 0) = false by simpa using h, ift_false, if_neg h]
 rw [ref1_minus_l1, dec_lt hi, ift_true, at_nat hi, bnd_some', dig_at hi, w64 (x := dig a i - c) (by omega) (by omega)]
 by_cases h : i < b.length
 ·rw [dec_lt h, ift_true, at_nat h, bnd_some', dig_at h, w64 (by omega) (by omega)]
  exact j1 _ rfl
 ·rw [show decide ((i : Int) < (b.length : Int)) = false by simp; omega, ift_false]
  exact j1 _ (by rw [dig_out (a := b) (by omega)]; omega)

theorem minus_loop {a b : List Int} (ha : digs a) (hb : digs b) (la : a.length < 1000) (lb : b.length ≤ a.length) (hab : dval b ≤ dval a) : ∀ (k i : Nat) (l : List Int) (c : Int),
  l.length = i → digs l → 0 ≤ c → c ≤ 1 → i ≤ a.length → a.length - i < k → dval l = dval (a.take i) - dval (b.take i) + p10 i * c →
  ∃ r, ref1_minus_l1 a b k l c (i : Int) = some r ∧ digs r ∧ top r ∧ dval r = dval a - dval b ∧ r.length ≤ a.length := by
 intro k
 induction k with
 | zero => intro i l c _ _ _ _ _ h; omega
 | succ k ih =>
  intro i l c hl dl c0 c1 hi hk hv
  by_cases he : i = a.length
  ·subst he
   rw [ref1_minus_l1, show decide ((a.length : Int) < (a.length : Int)) = false by simp, ift_false]
   unfold ref1_minus_j3
   rw [List.take_of_length_le (Nat.le_refl _), List.take_of_length_le lb] at hv
   have hlt := dval_lt dl
   rw [hl] at hlt
   have hc : c = 0 := by
    by_cases h : c = 0
    ·exact h
    ·have : c = 1 := by omega
     subst this
     omega
   subst hc
   obtain ⟨d', h1, h2, h3, h4, h5⟩ := cut_eq false l (by omega) dl
   rw [h1, bnd_some']
   exact ⟨d', rfl, h2, h3, by rw [h4, hv]; omega, by omega⟩
  ·obtain ⟨a0, a9⟩ := dig_range ha i
   obtain ⟨b0, b9⟩ := dig_range hb i
   rw [minus_step ha hb (by omega) k i l c hl c0 c1 (by omega)]
   have hp : p10 i * (dig a i - c - dig b i) = p10 i * dig a i - p10 i * c - p10 i * dig b i := by rw [Int.mul_sub, Int.mul_sub]
   by_cases h : dig a i - c - dig b i < 0
   ·rw [if_pos h]
    refine ih (i + 1) _ 1 (by simp [hl]) (digs_snoc dl (by omega) (by omega)) (by omega) (by omega) (by omega) (by omega) ?_
    rw [take_val, take_val, dval_append, hl]
    simp only [dval, p10]
    rw [Int.mul_add, Int.mul_add, hp]; omega
   ·rw [if_neg h]
    refine ih (i + 1) _ 0 (by simp [hl]) (digs_snoc dl (by omega) (by omega)) (by omega) (by omega) (by omega) (by omega) ?_
    rw [take_val, take_val, dval_append, hl]
    simp only [dval, p10]
    rw [Int.mul_add, hp]; omega

theorem len_le {a b : List Int} (ha : digs a) (hb : digs b) (tb : top b) (hab : dval b ≤ dval a) : b.length ≤ a.length := by
 by_cases h : b.length ≤ a.length
 ·exact h
 ·have h1 := dval_lt ha
  have h2 := dval_ge hb tb (by rintro rfl; simp at h)
  have := p10_mono (show a.length ≤ b.length - 1 by omega)
  omega

theorem minus_eq {a b : List Int} (ha : digs a) (hb : digs b) (tb : top b) (la : a.length < 1000) (hab : dval b ≤ dval a) :
  ∃ r, ref1_minus a b = some r ∧ digs r ∧ top r ∧ dval r = dval a - dval b ∧ r.length ≤ a.length := by
 unfold ref1_minus
 exact minus_loop ha hb la (len_le ha hb tb hab) hab BIG 0 [] 0 rfl digs_nil (by omega) (by omega) (by omega) (by rw [big_val]; omega) (by simp [dval])

theorem divide_inner {b : List Int} (hb : digs b) (tb : top b) (lb : b.length < 900) (hp : 0 < dval b) (rec1 : List Int → List Int → Int → Option (List Int × List Int)) (i : Nat) (hi0 : i < 1000) : ∀ (t k : Nat) (l r : List Int) (e : Int),
  digs r → top r → r.length < 900 → i < l.length → l[i]? = some e → 0 ≤ e → e + t ≤ 1000 → dval r / dval b = t → t < k →
  ∃ r', ref1_divide_l2 rec1 b (i : Int) k l r = rec1 (l.set i (e + t)) r' (IntKind.i64.wrap ((i : Int) - 1)) ∧ digs r' ∧ top r' ∧ r'.length ≤ r.length ∧ dval r' = dval r % dval b := by
 intro t
 induction t with
 | zero =>
  intro k l r e hr tr lr hi he e0 e1 ht hk
  obtain ⟨k, rfl⟩ : ∃ q, k = q + 1 := ⟨k - 1, by omega⟩
  obtain ⟨m, h1, h2, h3, h4⟩ := most_eq hr hb tr tb (by omega) (by omega)
  have n0 := dval_nonneg hr
  have hlt : dval r < dval b := by
   have h1 := Int.emod_add_mul_ediv (dval r) (dval b)
   have h2 := Int.emod_lt_of_pos (dval r) hp
   rw [ht] at h1
   simp at h1; omega
  rw [ref1_divide_l2, h1, bnd_some']
  have hm : m < 0 := by
   unfold c3 at h4
   rw [if_pos hlt] at h4
   by_cases hh : m < 0
   ·exact hh
   ·rw [if_neg hh] at h4; split at h4 <;> omega
  rw [show decide ((0 : Int) ≤ m) = false by simp; omega, ift_false]
  refine ⟨r, ?_, hr, tr, Nat.le_refl _, (Int.emod_eq_of_lt n0 hlt).symm⟩
  unfold ref1_divide_j1
  congr 1
  have : l[i] = e := by rw [List.getElem?_eq_getElem hi] at he; exact Option.some.inj he
  simp [← this]
 | succ t ih =>
  intro k l r e hr tr lr hi he e0 e1 ht hk
  obtain ⟨k, rfl⟩ : ∃ q, k = q + 1 := ⟨k - 1, by omega⟩
  obtain ⟨m, h1, h2, h3, h4⟩ := most_eq hr hb tr tb (by omega) (by omega)
  have n0 := dval_nonneg hr
  have hd := Int.emod_add_mul_ediv (dval r) (dval b)
  have hm0 := Int.emod_nonneg (dval r) (show dval b ≠ 0 by omega)
  have hge : dval b ≤ dval r := by
   rw [ht] at hd
   have : dval b * 1 ≤ dval b * ((t + 1 : Nat) : Int) := Int.mul_le_mul_of_nonneg_left (by omega) (by omega)
   omega
  rw [ref1_divide_l2, h1, bnd_some']
  have hm : 0 ≤ m := by
   unfold c3 at h4
   rw [if_neg (by omega : ¬ dval r < dval b)] at h4
   by_cases hh : m < 0
   ·rw [if_pos hh] at h4; split at h4 <;> omega
   ·omega
  obtain ⟨r2, g1, g2, g3, g4, g5⟩ := minus_eq hr hb tb (by omega) hge
  have he2 : at? l (i : Int) = some e := by unfold at?; simp [he]
  rw [show decide ((0 : Int) ≤ m) = true by simpa using hm, ift_true, g1, bnd_some', he2, bnd_some', w64 (by omega) (by omega), show (i : Int).toNat = i by omega]
  have hq : dval r2 / dval b = t := by
   rw [g4, Int.sub_ediv_of_dvd _ (Int.dvd_refl _), ht, Int.ediv_self (by omega)]; omega
  obtain ⟨r', q1, q2, q3, q4, q5⟩ := ih k (l.set i (e + 1)) r2 (e + 1) g2 g3 (by omega) (by simpa using hi) (by simp [hi]) (by omega) (by omega) hq (by omega)
  refine ⟨r', ?_, q2, q3, by omega, ?_⟩
  ·rw [q1, List.set_set]
   congr 2
   push_cast; omega
  ·rw [q5, g4, Int.sub_emod_right]

theorem divide_outer {a b : List Int} (ha : digs a) (la : a.length < 400) (hb : digs b) (tb : top b) (lb : b.length < 400) (hp : 0 < dval b) : ∀ (i k : Nat) (l r : List Int),
  i ≤ a.length → i < k → l.length = a.length → (∀ j, j < i → l[j]? = some 0) → digs (l.drop i) → digs r → top r → r.length ≤ b.length → dval r < dval b → dval (a.drop i) = dval (l.drop i) * dval b + dval r →
  ∃ q r', ref1_divide_l1 a b k l r ((i : Int) - 1) = some (q, r') ∧ digs q ∧ top q ∧ digs r' ∧ top r' ∧ q.length ≤ a.length ∧ r'.length ≤ b.length ∧ dval a = dval q * dval b + dval r' ∧ dval r' < dval b := by
 intro i
 induction i with
 | zero =>
  intro k l r hi hk hl hz hdl hr tr lr hlt hv
  obtain ⟨k, rfl⟩ : ∃ q, k = q + 1 := ⟨k - 1, by omega⟩
  rw [ref1_divide_l1, show decide ((0 : Int) ≤ ((0 : Nat) : Int) - 1) = false from rfl, ift_false]
  unfold ref1_divide_j2
  simp only [List.drop_zero] at hdl hv
  obtain ⟨d', h1, h2, h3, h4, h5⟩ := cut_eq false l (by omega) hdl
  rw [h1, bnd_some']
  exact ⟨d', r, rfl, h2, h3, hr, tr, by omega, lr, by rw [h4]; exact hv, hlt⟩
 | succ i ih =>
  intro k l r hi hk hl hz hdl hr tr lr hlt hv
  obtain ⟨k, rfl⟩ : ∃ q, k = q + 1 := ⟨k - 1, by omega⟩
  have hia : i < a.length := by omega
  have e1 : ((i + 1 : Nat) : Int) - 1 = (i : Int) := by omega
  rw [ref1_divide_l1, e1, show decide ((0 : Int) ≤ (i : Int)) = true by simp, ift_true, at_nat hia, bnd_some', grd_pos (by simp; omega)]
  have ra := ha a[i] (List.getElem_mem hia)
  obtain ⟨d', h1, h2, h3, h4, h5⟩ := cut_eq false ([a[i]] ++ r) (by simp; omega) (digs_cons hr ra.1 ra.2)
  rw [h1, bnd_some']
  have hv' : dval d' = a[i] + 10 * dval r := by rw [h4]; rfl
  have n0 := dval_nonneg hr
  have hd := Int.emod_add_mul_ediv (dval d') (dval b)
  have hm1 := Int.emod_lt_of_pos (dval d') hp
  have hm0 := Int.emod_nonneg (dval d') (show dval b ≠ 0 by omega)
  have t9 : dval d' / dval b ≤ 9 := by
   have : dval d' < 10 * dval b := by omega
   have := Int.ediv_lt_of_lt_mul hp this
   omega
  have t0 : 0 ≤ dval d' / dval b := Int.ediv_nonneg (by omega) (by omega)
  obtain ⟨r', q1, q2, q3, q4, q5⟩ := divide_inner hb tb (by omega) hp (ref1_divide_l1 a b k) i (by omega) (dval d' / dval b).toNat BIG l d' 0 h2 h3 (by simp at h5; omega) (by omega) (hz i (by omega)) (by omega) (by omega) (by omega) (by rw [big_val]; omega)
  rw [q1, w64 (by omega) (by omega), Int.zero_add, Int.toNat_of_nonneg t0]
  have hdrop : (l.set i (dval d' / dval b)).drop i = (dval d' / dval b) :: l.drop (i + 1) := by
   rw [List.drop_eq_getElem_cons (by simp; omega)]
   congr 1
   ·simp
   ·rw [List.drop_set_of_lt (by omega)]
  refine ih k _ r' (by omega) (by omega) (by simpa using hl) (fun j hj => ?_) ?_ q2 q3 ?_ (by rw [q5]; exact hm1) ?_
  ·rw [List.getElem?_set_ne (by omega)]; exact hz j (by omega)
  ·rw [hdrop]; exact digs_cons hdl t0 t9
  ·exact len_le hb q2 q3 (by rw [q5]; omega)
  ·rw [hdrop, List.drop_eq_getElem_cons hia]
   simp only [dval]
   rw [hv, q5, Int.add_mul, Int.mul_assoc, Int.mul_comm (dval d' / dval b)]
   have : 10 * (dval (l.drop (i + 1)) * dval b + dval r) = 10 * (dval (l.drop (i + 1)) * dval b) + 10 * dval r := Int.mul_add _ _ _
   omega

theorem divide_eq {a b : List Int} (ha : digs a) (la : a.length < 400) (hb : digs b) (tb : top b) (lb : b.length < 400) (hp : 0 < dval b) :
  ∃ q r, ref1_divide a b = some (q, r) ∧ digs q ∧ top q ∧ digs r ∧ top r ∧ q.length ≤ a.length ∧ r.length ≤ b.length ∧ dval q = dval a / dval b ∧ dval r = dval a % dval b := by
 unfold ref1_divide
 rw [grd_pos (by omega), w64 (by omega) (by omega)]
 have n0 := dval_nonneg ha
 obtain ⟨q, r, h1, h2, h3, h4, h5, h6, h7, h8, h9⟩ := divide_outer ha la hb tb lb hp a.length BIG (List.replicate a.length 0) [] (Nat.le_refl _) (by rw [big_val]; omega) (by simp) (fun j hj => by simp [hj]) (by simp [digs]) digs_nil top_nil (by simp) (by simpa [dval] using hp) (by simp [dval])
 have r0 := dval_nonneg h4
 refine ⟨q, r, by rw [show (a.length : Int).toNat = a.length by omega]; exact h1, h2, h3, h4, h5, h6, h7, ?_, ?_⟩
 ·rw [h8, Int.add_comm, Int.add_mul_ediv_right _ _ (by omega), Int.ediv_eq_zero_of_lt r0 h9]; omega
 ·rw [h8, Int.add_comm, Int.add_mul_emod_self_right, Int.emod_eq_of_lt r0 h9]

end Go.Proofs.YtdbfodeghijdlaaDoor
namespace Go.Proofs.YtdbfodeghijdlaaDoor
open Go Go.SX Go.SX.Cal
set_option linter.unusedVariables false
set_option linter.unusedSimpArgs false

theorem mul_lin (p11 p10 p01 p00 : Int) (h11 : 0 ≤ p11 ∧ p11 ≤ 18446744065119617025) (h10 : 0 ≤ p10 ∧ p10 ≤ 18446744065119617025) (h01 : 0 ≤ p01 ∧ p01 ≤ 18446744065119617025) (h00 : 0 ≤ p00 ∧ p00 ≤ 18446744065119617025) :
  p11 + (p10 + p00 / 4294967296) / 4294967296 + ((p10 + p00 / 4294967296) % 4294967296 + p01) / 4294967296 = (p11 * 18446744073709551616 + (p10 + p01) * 4294967296 + p00) / 18446744073709551616 := by
 omega

theorem mul_eq {x y : Int} (h0 : 0 ≤ x) (h1 : x < 18446744073709551616) (k0 : 0 ≤ y) (k1 : y < 18446744073709551616) : math_bits_Mul64 x y = some (x * y / 18446744073709551616, x * y % 18446744073709551616) := by
 unfold math_bits_Mul64
 simp only [bnd_eq, sh32]
 rw [mask32 h0 h1, mask32 k0 k1]
 simp only [wu]
 have hx0 : 0 ≤ x % 4294967296 ∧ x % 4294967296 < 4294967296 := by omega
 have hx1 : 0 ≤ x / 4294967296 ∧ x / 4294967296 < 4294967296 := by omega
 have hy0 : 0 ≤ y % 4294967296 ∧ y % 4294967296 < 4294967296 := by omega
 have hy1 : 0 ≤ y / 4294967296 ∧ y / 4294967296 < 4294967296 := by omega
 have ex : x = x / 4294967296 * 4294967296 + x % 4294967296 := by omega
 have ey : y = y / 4294967296 * 4294967296 + y % 4294967296 := by omega
 have exy : x * y = (x / 4294967296 * (y / 4294967296)) * 18446744073709551616 + (x / 4294967296 * (y % 4294967296) + x % 4294967296 * (y / 4294967296)) * 4294967296 + x % 4294967296 * (y % 4294967296) := by
  generalize x / 4294967296 = x1 at *
  generalize x % 4294967296 = x0 at *
  generalize y / 4294967296 = y1 at *
  generalize y % 4294967296 = y0 at *
  rw [ex, ey]
  simp only [Int.add_mul, Int.mul_add]
  have e1 : x1 * 4294967296 * (y1 * 4294967296) = x1 * y1 * 18446744073709551616 := by
   rw [Int.mul_assoc, Int.mul_left_comm 4294967296 y1, ← Int.mul_assoc]; rfl
  have e2 : x1 * 4294967296 * y0 = x1 * y0 * 4294967296 := by rw [Int.mul_assoc, Int.mul_comm 4294967296, ← Int.mul_assoc]
  have e3 : x0 * (y1 * 4294967296) = x0 * y1 * 4294967296 := by rw [Int.mul_assoc]
  rw [e1, e2, e3]; omega
 have b11 := Go.SX.Cal.prod_bound hx1.1 hx1.2 hy1.1 hy1.2
 have b10 := Go.SX.Cal.prod_bound hx1.1 hx1.2 hy0.1 hy0.2
 have b01 := Go.SX.Cal.prod_bound hx0.1 hx0.2 hy1.1 hy1.2
 have b00 := Go.SX.Cal.prod_bound hx0.1 hx0.2 hy0.1 hy0.2
 rw [m64 (x := x % 4294967296) (by omega) (by omega), m64 (x := y % 4294967296) (by omega) (by omega)]
 have L := mul_lin _ _ _ _ b11 b10 b01 b00
 rw [exy]
 generalize x / 4294967296 * (y / 4294967296) = p11 at *
 generalize x / 4294967296 * (y % 4294967296) = p10 at *
 generalize x % 4294967296 * (y / 4294967296) = p01 at *
 generalize x % 4294967296 * (y % 4294967296) = p00 at *
 rw [m64 (x := p10) (by omega) (by omega), m64 (x := p00) (by omega) (by omega), m64 (x := p01) (by omega) (by omega), m64 (x := p11) (by omega) (by omega), m64 (x := p10 + p00 / 4294967296) (by omega) (by omega)]
 rw [mask32 (x := p10 + p00 / 4294967296) (by omega) (by omega)]
 rw [m64 (x := (p10 + p00 / 4294967296) % 4294967296) (by omega) (by omega), m64 (x := (p10 + p00 / 4294967296) % 4294967296 + p01) (by omega) (by omega)]
 rw [m64 (x := p11 + (p10 + p00 / 4294967296) / 4294967296) (by omega) (by omega), m64 (x := p11 + (p10 + p00 / 4294967296) / 4294967296 + ((p10 + p00 / 4294967296) % 4294967296 + p01) / 4294967296) (by omega) (by omega), L]

theorem times_eq {w : GWide} {n : Int} (h : W4 w) (n0 : 0 ≤ n) (n1 : n < 18446744073709551616) (hv : val w * n < 115792089237316195423570985008687907853269984665640564039457584007913129639936) :
  ∃ w', value_wide_times w n = some w' ∧ W4 w' ∧ val w' = val w * n ∧ w'.neg = w.neg := by
 obtain ⟨neg, x0, x1, x2, x3⟩ := w
 obtain ⟨a0, a1, b0, b1, c0, c1, d0, d1⟩ := h
 simp only at a0 a1 b0 b1 c0 c1 d0 d1
 unfold value_wide_times
 simp only
 rw [mul_eq a0 a1 n0 n1, mul_eq b0 b1 n0 n1, mul_eq c0 c1 n0 n1, mul_eq d0 d1 n0 n1]
 simp only [bnd_eq, wu]
 have hval : val ⟨neg, x0, x1, x2, x3⟩ * n = x0 * n + x1 * n * 18446744073709551616 + x2 * n * 340282366920938463463374607431768211456 + x3 * n * 6277101735386680763835789423207666416102355444464034512896 := by
  unfold val
  simp only [Int.add_mul]
  rw [Int.mul_right_comm x1, Int.mul_right_comm x2, Int.mul_right_comm x3]
 rw [hval] at hv ⊢
 obtain ⟨p1, p2, p3, p4⟩ := word_step (c := 0) a0 a1 n0 n1 (by decide) (by decide)
 simp only [Int.add_zero] at p1 p2 p3 p4 ⊢
 rw [p1, p2]
 generalize hc1 : x0 * n / 18446744073709551616 = k1 at *
 obtain ⟨q1, q2, q3, q4⟩ := word_step (c := k1) b0 b1 n0 n1 p3 p4
 rw [q1, q2]
 generalize hc2 : (x1 * n + k1) / 18446744073709551616 = k2 at *
 obtain ⟨r1, r2, r3, r4⟩ := word_step (c := k2) c0 c1 n0 n1 q3 q4
 rw [r1, r2]
 generalize hc3 : (x2 * n + k2) / 18446744073709551616 = k3 at *
 obtain ⟨s1, s2, s3, s4⟩ := word_step (c := k3) d0 d1 n0 n1 r3 r4
 rw [s2]
 have e0 := Int.mul_nonneg a0 n0
 have e1 := Int.mul_nonneg b0 n0
 have e2 := Int.mul_nonneg c0 n0
 have e3 := Int.mul_nonneg d0 n0
 clear p1 p2 q1 q2 r1 r2 s1 s2
 generalize x0 * n = P0 at *
 generalize x1 * n = P1 at *
 generalize x2 * n = P2 at *
 generalize x3 * n = P3 at *
 rw [grd_pos (by omega), grd_pos (by omega), grd_pos (by omega), grd_pos (by omega)]
 refine ⟨_, rfl, ⟨by simp only; omega, by simp only; omega, by simp only; omega, by simp only; omega, by simp only; omega, by simp only; omega, by simp only; omega, by simp only; omega⟩, ?_, rfl⟩
 simp only [val]
 have f0 : P0 = k1 * 18446744073709551616 + P0 % 18446744073709551616 := by omega
 have f1 : P1 + k1 = k2 * 18446744073709551616 + (P1 + k1) % 18446744073709551616 := by omega
 have f2 : P2 + k2 = k3 * 18446744073709551616 + (P2 + k2) % 18446744073709551616 := by omega
 have f3 : P3 + k3 = (P3 + k3) / 18446744073709551616 * 18446744073709551616 + (P3 + k3) % 18446744073709551616 := by omega
 have z : (P3 + k3) / 18446744073709551616 = 0 := by
  generalize P0 % 18446744073709551616 = m0 at *
  generalize (P1 + k1) % 18446744073709551616 = m1 at *
  generalize (P2 + k2) % 18446744073709551616 = m2 at *
  omega
 rw [z] at f3
 generalize P0 % 18446744073709551616 = m0 at *
 generalize (P1 + k1) % 18446744073709551616 = m1 at *
 generalize (P2 + k2) % 18446744073709551616 = m2 at *
 generalize (P3 + k3) % 18446744073709551616 = m3 at *
 omega

theorem csize_eq {a b : GWide} (ha : W4 a) (hb : W4 b) : value_compareSize a b = some (c3 (val a) (val b)) := by
 obtain ⟨n, x0, x1, x2, x3⟩ := a
 obtain ⟨m, y0, y1, y2, y3⟩ := b
 obtain ⟨a0, a1, b0, b1, c0, c1, d0, d1⟩ := ha
 obtain ⟨e0, e1, f0, f1, g0, g1, h0, h1⟩ := hb
 simp only at *
 unfold value_compareSize
 simp only [ift_ite, decide_eq_true_eq]
 unfold c3 val
 simp only
 by_cases q3 : x3 < y3
 ·rw [if_pos q3, if_pos (by omega)]
 rw [if_neg q3]
 by_cases q3' : y3 < x3
 ·rw [if_pos q3', if_neg (by omega), if_pos (by omega)]
 rw [if_neg q3']
 by_cases q2 : x2 < y2
 ·rw [if_pos q2, if_pos (by omega)]
 rw [if_neg q2]
 by_cases q2' : y2 < x2
 ·rw [if_pos q2', if_neg (by omega), if_pos (by omega)]
 rw [if_neg q2']
 by_cases q1 : x1 < y1
 ·rw [if_pos q1, if_pos (by omega)]
 rw [if_neg q1]
 by_cases q1' : y1 < x1
 ·rw [if_pos q1', if_neg (by omega), if_pos (by omega)]
 rw [if_neg q1']
 by_cases q0 : x0 < y0
 ·rw [if_pos q0, if_pos (by omega)]
 rw [if_neg q0]
 by_cases q0' : y0 < x0
 ·rw [if_pos q0', if_neg (by omega), if_pos (by omega)]
 rw [if_neg q0', if_neg (by omega), if_neg (by omega)]

def wd (A j : Nat) : Nat := A / 2 ^ (64 * j) % 2 ^ 64

def mkW (s : Bool) (A : Nat) : GWide := ⟨s, (wd A 0 : Int), (wd A 1 : Int), (wd A 2 : Int), (wd A 3 : Int)⟩

theorem eta_w (w : GWide) : GWide.mk w.neg (w.size.1, w.size.2.1, w.size.2.2.1, w.size.2.2.2) = w := rfl

theorem wd0 (A : Nat) : wd A 0 = A % 18446744073709551616 := by unfold wd; simp
theorem wd1 (A : Nat) : wd A 1 = A / 18446744073709551616 % 18446744073709551616 := by unfold wd; simp
theorem wd2 (A : Nat) : wd A 2 = A / 340282366920938463463374607431768211456 % 18446744073709551616 := by unfold wd; simp
theorem wd3 (A : Nat) : wd A 3 = A / 6277101735386680763835789423207666416102355444464034512896 % 18446744073709551616 := by unfold wd; simp

theorem mkW_w4 (s : Bool) (A : Nat) : W4 (mkW s A) := by
 have h : ∀ j, (0 : Int) ≤ (wd A j : Int) ∧ (wd A j : Int) < 18446744073709551616 := fun j => by
  have : wd A j < 2 ^ 64 := Nat.mod_lt _ (by decide)
  omega
 exact ⟨(h 0).1, (h 0).2, (h 1).1, (h 1).2, (h 2).1, (h 2).2, (h 3).1, (h 3).2⟩

theorem val_mkW (s : Bool) (A : Nat) (h : A < 115792089237316195423570985008687907853269984665640564039457584007913129639936) : val (mkW s A) = A := by
 unfold val mkW
 simp only [wd0, wd1, wd2, wd3]
 omega

theorem w4_mk {w : GWide} (h : W4 w) : w = mkW w.neg (val w).toNat := by
 obtain ⟨neg, x0, x1, x2, x3⟩ := w
 obtain ⟨a0, a1, b0, b1, c0, c1, d0, d1⟩ := h
 simp only at a0 a1 b0 b1 c0 c1 d0 d1
 unfold mkW val
 simp only [wd0, wd1, wd2, wd3, GWide.mk.injEq, Prod.mk.injEq, true_and]
 refine ⟨?_, ?_, ?_, ?_⟩ <;> omega

theorem w4_eq {w : GWide} {s : Bool} {A : Nat} (h : W4 w) (hs : w.neg = s) (hv : val w = A) : w = mkW s A := by
 rw [w4_mk h, hs, hv]; rfl

theorem times_mk (s : Bool) (A m : Nat) (hm : m < 18446744073709551616) (h : A * m < 115792089237316195423570985008687907853269984665640564039457584007913129639936) (hA : A < 115792089237316195423570985008687907853269984665640564039457584007913129639936) : value_wide_times (mkW s A) (m : Int) = some (mkW s (A * m)) := by
 have hv := val_mkW s A hA
 obtain ⟨w, h1, h2, h3, h4⟩ := times_eq (n := (m : Int)) (mkW_w4 s A) (by omega) (by omega) (by rw [hv]; omega)
 rw [h1, w4_eq h2 (s := s) (A := A * m) h4 (by rw [h3, hv]; push_cast; rfl)]

theorem csize_mk (s t : Bool) (A B : Nat) (hA : A < 115792089237316195423570985008687907853269984665640564039457584007913129639936) (hB : B < 115792089237316195423570985008687907853269984665640564039457584007913129639936) : value_compareSize (mkW s A) (mkW t B) = some (c3 (A : Int) (B : Int)) := by
 rw [csize_eq (mkW_w4 s A) (mkW_w4 t B), val_mkW s A hA, val_mkW t B hB]

theorem whole_mk (n : Int) (h0 : -9223372036854775808 ≤ n) (h1 : n ≤ 9223372036854775807) : value_whole n = some (mkW (decide (n < 0)) n.natAbs) := by
 unfold value_whole
 by_cases h : n < 0
 ·rw [show decide (n < 0) = true by simpa using h, ift_true]
  congr 1
  unfold mkW
  simp only [wd0, wd1, wd2, wd3, GWide.mk.injEq, Prod.mk.injEq, true_and, wu]
  refine ⟨?_, ?_, ?_, ?_⟩ <;> omega
 ·rw [show decide (n < 0) = false by simpa using h, ift_false]
  congr 1
  unfold mkW
  simp only [wd0, wd1, wd2, wd3, GWide.mk.injEq, Prod.mk.injEq, true_and, wu]
  refine ⟨?_, ?_, ?_, ?_⟩ <;> omega

theorem shifted_l (s : Bool) (d : Nat) (hd : d ≤ 1000) : ∀ (j k A i : Nat), i + j = d → j < k → A * 10 ^ j < 115792089237316195423570985008687907853269984665640564039457584007913129639936 →
  value_wide_shifted_l1 (d : Int) k s (wd A 0) (wd A 1) (wd A 2) (wd A 3) (i : Int) = some (mkW s (A * 10 ^ j)) := by
 intro j
 induction j with
 | zero =>
  intro k A i hi hk hA
  obtain ⟨k, rfl⟩ : ∃ q, k = q + 1 := ⟨k - 1, by omega⟩
  rw [value_wide_shifted_l1, show decide ((i : Int) < (d : Int)) = false by simp; omega, ift_false, Nat.pow_zero, Nat.mul_one]
  rfl
 | succ j ih =>
  intro k A i hi hk hA
  obtain ⟨k, rfl⟩ : ∃ q, k = q + 1 := ⟨k - 1, by omega⟩
  have e : A * 10 ^ (j + 1) = A * 10 * 10 ^ j := by rw [Nat.pow_succ, Nat.mul_comm (10 ^ j) 10, Nat.mul_assoc]
  have hp : 0 < 10 ^ j := Nat.pow_pos (by decide)
  have hle : A * 10 * 1 ≤ A * 10 * 10 ^ j := Nat.mul_le_mul_left _ hp
  rw [e] at hA ⊢
  have ht := times_mk s A 10 (by decide) (by omega) (by omega)
  rw [value_wide_shifted_l1, show decide ((i : Int) < (d : Int)) = true by simp; omega, ift_true]
  have ht' : value_wide_times (GWide.mk s ((wd A 0 : Int), (wd A 1 : Int), (wd A 2 : Int), (wd A 3 : Int))) (10 : Int) = some (mkW s (A * 10)) := ht
  rw [ht', bnd_some', w64 (by omega) (by omega), show (i : Int) + 1 = ((i + 1 : Nat) : Int) by omega]
  exact ih k (A * 10) (i + 1) (by omega) (by omega) hA

theorem shifted_mk (s : Bool) (A d : Nat) (hd : d ≤ 1000) (h : A * 10 ^ d < 115792089237316195423570985008687907853269984665640564039457584007913129639936) : value_wide_shifted (mkW s A) (d : Int) = some (mkW s (A * 10 ^ d)) :=
 shifted_l s d hd d BIG A 0 (by omega) (by rw [big_val]; omega) h

theorem minus_j_w {s t : Bool} {x0 x1 x2 x3 y0 y1 y2 y3 : Int} (ha : W4 ⟨s, x0, x1, x2, x3⟩) (hb : W4 ⟨t, y0, y1, y2, y3⟩) (hle : val ⟨t, y0, y1, y2, y3⟩ ≤ val ⟨s, x0, x1, x2, x3⟩) :
  ∃ w, value_wide_minus_j1 s x0 x1 x2 x3 t y0 y1 y2 y3 = some w ∧ W4 w ∧ w.neg = s ∧ val w = val ⟨s, x0, x1, x2, x3⟩ - val ⟨t, y0, y1, y2, y3⟩ := by
 obtain ⟨a0, a1, b0, b1, c0, c1, d0, d1⟩ := ha
 obtain ⟨e0, e1, f0, f1, g0, g1, h0, h1⟩ := hb
 simp only at a0 a1 b0 b1 c0 c1 d0 d1 e0 e1 f0 f1 g0 g1 h0 h1
 simp only [val] at hle ⊢
 unfold value_wide_minus_j1
 simp only [bnd_eq, Int.add_zero, Int.sub_zero]
 have k1 : ∃ u, (if x0 < y0 then (1 : Int) else 0) = u ∧ 0 ≤ u ∧ u ≤ 1 ∧ (x0 - y0) % 18446744073709551616 = x0 - y0 + u * 18446744073709551616 := by
  split
  ·exact ⟨1, rfl, by omega, by omega, by omega⟩
  ·exact ⟨0, rfl, by omega, by omega, by omega⟩
 obtain ⟨u1, p1, p2, p3, p4⟩ := k1
 rw [p1, p4]
 have k2 : ∃ u, (if x1 < y1 + u1 then (1 : Int) else 0) = u ∧ 0 ≤ u ∧ u ≤ 1 ∧ (x1 - y1 - u1) % 18446744073709551616 = x1 - y1 - u1 + u * 18446744073709551616 := by
  split
  ·exact ⟨1, rfl, by omega, by omega, by omega⟩
  ·exact ⟨0, rfl, by omega, by omega, by omega⟩
 obtain ⟨u2, q1, q2, q3, q4⟩ := k2
 rw [q1, q4]
 have k3 : ∃ u, (if x2 < y2 + u2 then (1 : Int) else 0) = u ∧ 0 ≤ u ∧ u ≤ 1 ∧ (x2 - y2 - u2) % 18446744073709551616 = x2 - y2 - u2 + u * 18446744073709551616 := by
  split
  ·exact ⟨1, rfl, by omega, by omega, by omega⟩
  ·exact ⟨0, rfl, by omega, by omega, by omega⟩
 obtain ⟨u3, r1, r2, r3, r4⟩ := k3
 rw [r1, r4]
 rw [grd_pos (by omega), grd_pos (by omega), grd_pos (by omega), grd_pos (by omega)]
 have p5 : 0 ≤ x0 - y0 + u1 * 18446744073709551616 ∧ x0 - y0 + u1 * 18446744073709551616 < 18446744073709551616 := by omega
 have q5 : 0 ≤ x1 - y1 - u1 + u2 * 18446744073709551616 ∧ x1 - y1 - u1 + u2 * 18446744073709551616 < 18446744073709551616 := by omega
 have r5 : 0 ≤ x2 - y2 - u2 + u3 * 18446744073709551616 ∧ x2 - y2 - u2 + u3 * 18446744073709551616 < 18446744073709551616 := by omega
 clear p1 p4 q1 q4 r1 r4
 have s5 : (x3 - y3 - u3) % 18446744073709551616 = x3 - y3 - u3 := by omega
 rw [s5]
 refine ⟨_, rfl, ⟨p5.1, p5.2, q5.1, q5.2, r5.1, r5.2, by simp only; omega, by simp only; omega⟩, rfl, ?_⟩
 simp only
 omega

theorem plus_same_w {k : Nat} {b : Bool} {x0 x1 x2 x3 y0 y1 y2 y3 : Int} (ha : W4 ⟨b, x0, x1, x2, x3⟩) (hb : W4 ⟨b, y0, y1, y2, y3⟩) (hv : val ⟨b, x0, x1, x2, x3⟩ + val ⟨b, y0, y1, y2, y3⟩ < 115792089237316195423570985008687907853269984665640564039457584007913129639936) :
  ∃ w, value_wide_plus (k + 1) ⟨b, x0, x1, x2, x3⟩ ⟨b, y0, y1, y2, y3⟩ = some w ∧ W4 w ∧ w.neg = b ∧ val w = val ⟨b, x0, x1, x2, x3⟩ + val ⟨b, y0, y1, y2, y3⟩ := by
 obtain ⟨a0, a1, b0, b1', c0, c1, d0, d1⟩ := ha
 obtain ⟨e0, e1, f0, f1, g0, g1, h0, h1⟩ := hb
 simp only at a0 a1 b0 b1' c0 c1 d0 d1 e0 e1 f0 f1 g0 g1 h0 h1
 rw [value_wide_plus]
 simp only [beq_self_eq_true, Bool.not_true, ift_false, bnd_eq, Int.add_zero]
 simp only [val] at hv ⊢
 have m0 : x0 + y0 = (x0 + y0) / 18446744073709551616 * 18446744073709551616 + (x0 + y0) % 18446744073709551616 := by omega
 have u0 : 0 ≤ (x0 + y0) / 18446744073709551616 ∧ (x0 + y0) / 18446744073709551616 ≤ 1 := by omega
 have v0 : 0 ≤ (x0 + y0) % 18446744073709551616 ∧ (x0 + y0) % 18446744073709551616 < 18446744073709551616 := by omega
 generalize (x0 + y0) / 18446744073709551616 = t0 at *
 generalize (x0 + y0) % 18446744073709551616 = r0 at *
 have m1 : x1 + y1 + t0 = (x1 + y1 + t0) / 18446744073709551616 * 18446744073709551616 + (x1 + y1 + t0) % 18446744073709551616 := by omega
 have u1 : 0 ≤ (x1 + y1 + t0) / 18446744073709551616 ∧ (x1 + y1 + t0) / 18446744073709551616 ≤ 1 := by omega
 have v1 : 0 ≤ (x1 + y1 + t0) % 18446744073709551616 ∧ (x1 + y1 + t0) % 18446744073709551616 < 18446744073709551616 := by omega
 generalize (x1 + y1 + t0) / 18446744073709551616 = t1 at *
 generalize (x1 + y1 + t0) % 18446744073709551616 = r1 at *
 have m2 : x2 + y2 + t1 = (x2 + y2 + t1) / 18446744073709551616 * 18446744073709551616 + (x2 + y2 + t1) % 18446744073709551616 := by omega
 have u2 : 0 ≤ (x2 + y2 + t1) / 18446744073709551616 ∧ (x2 + y2 + t1) / 18446744073709551616 ≤ 1 := by omega
 have v2 : 0 ≤ (x2 + y2 + t1) % 18446744073709551616 ∧ (x2 + y2 + t1) % 18446744073709551616 < 18446744073709551616 := by omega
 generalize (x2 + y2 + t1) / 18446744073709551616 = t2 at *
 generalize (x2 + y2 + t1) % 18446744073709551616 = r2 at *
 have m3 : x3 + y3 + t2 = (x3 + y3 + t2) / 18446744073709551616 * 18446744073709551616 + (x3 + y3 + t2) % 18446744073709551616 := by omega
 have u3 : 0 ≤ (x3 + y3 + t2) / 18446744073709551616 ∧ (x3 + y3 + t2) / 18446744073709551616 ≤ 1 := by omega
 have v3 : 0 ≤ (x3 + y3 + t2) % 18446744073709551616 ∧ (x3 + y3 + t2) % 18446744073709551616 < 18446744073709551616 := by omega
 generalize (x3 + y3 + t2) / 18446744073709551616 = t3 at *
 generalize (x3 + y3 + t2) % 18446744073709551616 = r3 at *
 rw [grd_pos (by omega), grd_pos (by omega), grd_pos (by omega), grd_pos (by omega)]
 have z : t3 = 0 := by omega
 subst z
 refine ⟨_, rfl, ⟨v0.1, v0.2, v1.1, v1.2, v2.1, v2.2, v3.1, v3.2⟩, rfl, ?_⟩
 simp only
 omega

theorem minus_j_mk (a b : GWide) (ha : W4 a) (hb : W4 b) (hle : val b ≤ val a) :
  value_wide_minus_j1 a.neg a.size.1 a.size.2.1 a.size.2.2.1 a.size.2.2.2 b.neg b.size.1 b.size.2.1 b.size.2.2.1 b.size.2.2.2 = some (mkW a.neg (val a - val b).toNat) := by
 obtain ⟨w, h1, h2, h3, h4⟩ := minus_j_w ha hb hle
 rw [h1, w4_mk h2, h3, h4]

theorem plus_same_mk (k : Nat) (s : Bool) (A B : Nat) (hv : A + B < 115792089237316195423570985008687907853269984665640564039457584007913129639936) :
  value_wide_plus (k + 1) (mkW s A) (mkW s B) = some (mkW s (A + B)) := by
 have va := val_mkW s A (by omega)
 have vb := val_mkW s B (by omega)
 have hv' : val (mkW s A) + val (mkW s B) < 115792089237316195423570985008687907853269984665640564039457584007913129639936 := by rw [va, vb]; omega
 obtain ⟨w, h1, h2, h3, h4⟩ := plus_same_w (k := k) (mkW_w4 s A) (mkW_w4 s B) hv'
 have h5 : val w = ((A + B : Nat) : Int) := by
  have : val w = val (mkW s A) + val (mkW s B) := h4
  rw [this, va, vb]; omega
 have h6 := w4_eq h2 h3 h5
 rw [h6] at h1
 exact h1

def sgv (s : Bool) (A : Nat) : Int := if s = true then -(A : Int) else (A : Int)

theorem c3_neg {a b : Int} : decide (c3 a b < 0) = decide (a < b) := by
 unfold c3
 by_cases h : a < b
 ·simp [h]
 ·rw [if_neg h]; split <;> simp [h]

theorem minus_same_mk (k : Nat) (s : Bool) (A B : Nat) (hA : A < 115792089237316195423570985008687907853269984665640564039457584007913129639936) (hB : B < 115792089237316195423570985008687907853269984665640564039457584007913129639936) :
  value_wide_minus (k + 1) (mkW s A) (mkW s B) = some (if A < B then mkW (!s) (B - A) else mkW s (A - B)) := by
 rw [value_wide_minus, show (mkW s A).neg = s from rfl, show (mkW s B).neg = s from rfl]
 simp only [beq_self_eq_true, Bool.not_true, ift_false]
 have e := csize_mk s s A B hA hB
 have e' : value_compareSize (GWide.mk s ((mkW s A).size.1, (mkW s A).size.2.1, (mkW s A).size.2.2.1, (mkW s A).size.2.2.2)) (GWide.mk s ((mkW s B).size.1, (mkW s B).size.2.1, (mkW s B).size.2.2.1, (mkW s B).size.2.2.2)) = some (c3 (A : Int) (B : Int)) := e
 rw [e', bnd_some', c3_neg]
 by_cases h : A < B
 ·rw [show decide ((A : Int) < (B : Int)) = true by simpa using h, ift_true, if_pos h]
  unfold value_wide_negated
  rw [bnd_some']
  have va := val_mkW s A hA
  have vb := val_mkW (!s) B hB
  have q := minus_j_mk (mkW (!s) B) (mkW s A) (mkW_w4 _ _) (mkW_w4 _ _) (by rw [va, vb]; omega)
  rw [va, vb, show ((B : Int) - (A : Int)).toNat = B - A by omega] at q
  exact q
 ·rw [show decide ((A : Int) < (B : Int)) = false by simpa using h, ift_false, if_neg h]
  have va := val_mkW s A hA
  have vb := val_mkW s B hB
  have q := minus_j_mk (mkW s A) (mkW s B) (mkW_w4 _ _) (mkW_w4 _ _) (by rw [va, vb]; omega)
  rw [va, vb, show ((A : Int) - (B : Int)).toNat = A - B by omega] at q
  exact q

theorem plus_mk (s t : Bool) (A B : Nat) (hv : A + B < 115792089237316195423570985008687907853269984665640564039457584007913129639936) :
  ∃ u C, value_wide_plus BIG (mkW s A) (mkW t B) = some (mkW u C) ∧ sgv u C = sgv s A + sgv t B ∧ C ≤ A + B := by
 have hB : BIG = 1152921504606846974 + 1 + 1 := rfl
 by_cases h : s = t
 ·subst h
  rw [hB, plus_same_mk _ s A B hv]
  refine ⟨s, A + B, rfl, ?_, Nat.le_refl _⟩
  unfold sgv; cases s <;> simp <;> omega
 ·rw [hB, value_wide_plus, show (mkW s A).neg = s from rfl, show (mkW t B).neg = t from rfl]
  have hb := bool_ne s t h
  rw [hb.1, ift_true]
  unfold value_wide_negated
  rw [bnd_some']
  show ∃ u C, bnd (value_wide_minus (1152921504606846974 + 1) (mkW s A) (mkW (!t) B)) _ = _ ∧ _
  rw [hb.2, minus_same_mk _ s A B (by omega) (by omega), bnd_some', eta_w]
  by_cases hlt : A < B
  ·rw [if_pos hlt]
   refine ⟨!s, B - A, rfl, ?_, by omega⟩
   unfold sgv; revert h; cases s <;> cases t <;> simp <;> omega
  ·rw [if_neg hlt]
   refine ⟨s, A - B, rfl, ?_, by omega⟩
   unfold sgv; revert h; cases s <;> cases t <;> simp <;> omega

end Go.Proofs.YtdbfodeghijdlaaDoor
namespace Go.Proofs.YtdbfodeghijdlaaDoor
open Go Go.SX Go.SX.Cal
set_option linter.unusedVariables false
set_option linter.unusedSimpArgs false

theorem wd_or (Q n j : Nat) : wd (Q ||| 2 ^ n) j = wd Q j ||| (if j = n / 64 then 2 ^ (n % 64) else 0) := by
 refine Nat.eq_of_testBit_eq fun i => ?_
 unfold wd
 rw [Nat.testBit_mod_two_pow, Nat.testBit_div_two_pow, Nat.testBit_or, Nat.testBit_or, Nat.testBit_mod_two_pow, Nat.testBit_div_two_pow, Nat.testBit_two_pow]
 by_cases hj : j = n / 64
 ·rw [if_pos hj, Nat.testBit_two_pow]
  by_cases hi : i < 64
  ·have : (n = i + 64 * j) ↔ (n % 64 = i) := by omega
   simp [hi, this]
  ·have : ¬ (n % 64 = i) := by omega
   simp [hi, this]
 ·rw [if_neg hj]
  by_cases hi : i < 64
  ·have : ¬ (n = i + 64 * j) := by omega
   simp [hi, this]
  ·simp [hi]

theorem bit_wd (A n : Nat) : wd A (n / 64) / 2 ^ (n % 64) % 2 = A / 2 ^ n % 2 := by
 have h : (wd A (n / 64)).testBit (n % 64) = A.testBit n := by
  unfold wd
  rw [Nat.testBit_mod_two_pow, Nat.testBit_div_two_pow, show n % 64 + 64 * (n / 64) = n by omega]
  have : n % 64 < 64 := Nat.mod_lt _ (by decide)
  simp [this]
 rw [Nat.testBit_eq_decide_div_mod_eq, Nat.testBit_eq_decide_div_mod_eq] at h
 have h1 := Nat.mod_two_eq_zero_or_one (wd A (n / 64) / 2 ^ (n % 64))
 have h2 := Nat.mod_two_eq_zero_or_one (A / 2 ^ n)
 rcases h1 with h1 | h1 <;> rcases h2 with h2 | h2 <;> simp_all

theorem ofI (x : Nat) (h : x < 18446744073709551616) : (BitVec.ofInt 64 (x : Int)).toNat = x := by
 rw [BitVec.toNat_ofInt]
 have : (x : Int) % ((2 ^ 64 : Nat) : Int) = x := by omega
 rw [this]; rfl

theorem or64 (x y : Nat) (hx : x < 18446744073709551616) (hy : y < 18446744073709551616) : IntKind.u64.wrap ((BitVec.ofInt (IntKind.u64).bits (x : Int) ||| BitVec.ofInt (IntKind.u64).bits (y : Int)).toNat : Int) = ((x ||| y : Nat) : Int) := by
 show IntKind.u64.wrap ((BitVec.ofInt 64 (x : Int) ||| BitVec.ofInt 64 (y : Int)).toNat : Int) = _
 rw [BitVec.toNat_or, ofI x hx, ofI y hy, wu]
 have : x ||| y < 2 ^ 64 := Nat.or_lt_two_pow hx hy
 omega

theorem and1 (x : Nat) (hx : x < 18446744073709551616) : IntKind.u64.wrap ((BitVec.ofInt (IntKind.u64).bits (x : Int) &&& BitVec.ofInt (IntKind.u64).bits (1 : Int)).toNat : Int) = ((x % 2 : Nat) : Int) := by
 show IntKind.u64.wrap ((BitVec.ofInt 64 (x : Int) &&& BitVec.ofInt 64 ((1 : Nat) : Int)).toNat : Int) = _
 rw [BitVec.toNat_and, ofI x hx, ofI 1 (by decide), wu]
 have e : x &&& 1 = x % 2 := Nat.and_two_pow_sub_one_eq_mod x 1
 rw [e]
 omega

theorem or_bit (x b : Nat) (hx : x % 2 = 0) (hb : b < 2) : x ||| b = x + b := by
 have := Nat.two_pow_add_eq_or_of_lt (i := 1) (b := b) (by simpa using hb) (x / 2)
 rw [show 2 ^ 1 * (x / 2) = x by omega] at this
 exact this.symm

theorem fd (x s : Nat) : (x : Int).fdiv (2 ^ s) = ((x / 2 ^ s : Nat) : Int) := by
 rw [Int.fdiv_eq_ediv_of_nonneg _ (Int.le_of_lt (Int.pow_pos (by decide)))]
 push_cast; rfl

theorem wd_lt (A j : Nat) : wd A j < 18446744073709551616 := Nat.mod_lt _ (by decide)

theorem min64 (s : Nat) (h : s < 64) : min ((s : Int)).toNat (IntKind.u64).bits = s := by
 show min ((s : Int)).toNat 64 = s
 omega

theorem pow64 (s : Nat) (h : s < 64) : IntKind.u64.wrap ((1 : Int) * 2 ^ s) = ((2 ^ s : Nat) : Int) := by
 have : 2 ^ s < 2 ^ 64 := Nat.pow_lt_pow_right (by decide) h
 rw [wu, Int.one_mul, show ((2 : Int) ^ s) = ((2 ^ s : Nat) : Int) by push_cast; rfl]
 generalize 2 ^ s = P at *
 omega

theorem wd_bit (R b : Nat) (hb : b < 2) : wd (R * 2) 0 ||| b = wd (R * 2 + b) 0 ∧ wd (R * 2) 1 = wd (R * 2 + b) 1 ∧ wd (R * 2) 2 = wd (R * 2 + b) 2 ∧ wd (R * 2) 3 = wd (R * 2 + b) 3 := by
 rw [or_bit _ _ (by rw [wd0]; omega) hb]
 simp only [wd0, wd1, wd2, wd3]
 omega

abbrev QT := Int → Int → Int → Int → Bool → Int → Int → Int → Int → Int → Option (GWide × GWide)

theorem quo_j1 (rec1 : QT) (t b : Bool) (B Q C n : Nat) (hn : n < 256) (hB : B < 57896044618658097711785492504343953926634992332820282019728792003956564819968) (hC : C < 115792089237316195423570985008687907853269984665640564039457584007913129639936) (r1 : GWide) (hr : r1.neg = b) (h1 : r1.size.2.1 = (wd C 1 : Int)) (h2 : r1.size.2.2.1 = (wd C 2 : Int)) (h3 : r1.size.2.2.2 = (wd C 3 : Int)) :
  value_wide_quo_j1 rec1 (mkW t B) (wd Q 0) (wd Q 1) (wd Q 2) (wd Q 3) (n : Int) r1 (wd C 0) =
   if B ≤ C then rec1 (wd (Q ||| 2 ^ n) 0) (wd (Q ||| 2 ^ n) 1) (wd (Q ||| 2 ^ n) 2) (wd (Q ||| 2 ^ n) 3) false (wd (C - B) 0) (wd (C - B) 1) (wd (C - B) 2) (wd (C - B) 3) ((n : Int) - 1)
   else rec1 (wd Q 0) (wd Q 1) (wd Q 2) (wd Q 3) b (wd C 0) (wd C 1) (wd C 2) (wd C 3) ((n : Int) - 1) := by
 unfold value_wide_quo_j1
 rw [h1, h2, h3, hr, eta_w]
 have e1 : value_compareSize (GWide.mk b ((wd C 0 : Int), (wd C 1 : Int), (wd C 2 : Int), (wd C 3 : Int))) (mkW t B) = some (c3 (C : Int) (B : Int)) := csize_mk b t C B hC (by omega)
 rw [e1, bnd_some']
 have hw : IntKind.i64.wrap ((n : Int) - 1) = (n : Int) - 1 := w64 (by omega) (by omega)
 by_cases h : B ≤ C
 ·rw [show decide ((0 : Int) ≤ c3 (C : Int) (B : Int)) = true by unfold c3; rw [if_neg (by omega)]; split <;> simp, ift_true, if_pos h]
  have e2 : value_wide_minus BIG (GWide.mk false ((wd C 0 : Int), (wd C 1 : Int), (wd C 2 : Int), (wd C 3 : Int))) (GWide.mk false ((mkW t B).size.1, (mkW t B).size.2.1, (mkW t B).size.2.2.1, (mkW t B).size.2.2.2)) = some (mkW false (C - B)) := by
   have := minus_same_mk 1152921504606846975 false C B hC (by omega)
   rw [if_neg (by omega)] at this
   exact this
  rw [e2, bnd_some']
  have e3 : IntKind.i64.wrap ((n : Int).tdiv 64) = ((n / 64 : Nat) : Int) := by
   rw [Int.tdiv_eq_ediv_of_nonneg (by omega), w64 (by omega) (by omega)]; omega
  have e4 : (n : Int).tmod 64 = ((n % 64 : Nat) : Int) := by
   rw [Int.tmod_eq_emod_of_nonneg (by omega)]; omega
  have hs : n % 64 < 64 := Nat.mod_lt _ (by decide)
  have hp : 2 ^ (n % 64) < 18446744073709551616 := Nat.pow_lt_pow_right (by decide) hs
  rw [e3, e4, min64 _ hs, pow64 _ hs]
  simp only [bnd_some']
  rw [or64 _ _ (wd_lt Q 0) hp, or64 _ _ (wd_lt Q 1) hp, or64 _ _ (wd_lt Q 2) hp, or64 _ _ (wd_lt Q 3) hp, wd_or Q n 0, wd_or Q n 1, wd_or Q n 2, wd_or Q n 3]
  have hc : n / 64 = 0 ∨ n / 64 = 1 ∨ n / 64 = 2 ∨ n / 64 = 3 := by omega
  unfold value_wide_quo_j2 grd
  have hg : (0 : Int) ≤ ((n % 64 : Nat) : Int) := by omega
  simp only [if_pos hg, hw]
  rcases hc with hc | hc | hc | hc <;> simp only [hc, ift_ite] <;> simp [mkW]
 ·rw [show decide ((0 : Int) ≤ c3 (C : Int) (B : Int)) = false by unfold c3; rw [if_pos (by omega)]; rfl, ift_false, if_neg h]
  unfold value_wide_quo_j2
  rw [hw]

theorem quo_step (s t b : Bool) (A B Q R n k : Nat) (hn : n < 256) (hB : B < 57896044618658097711785492504343953926634992332820282019728792003956564819968) (hR : R < B) :
  value_wide_quo_l1 (mkW s A) (mkW t B) (k + 1) (wd Q 0) (wd Q 1) (wd Q 2) (wd Q 3) b (wd R 0) (wd R 1) (wd R 2) (wd R 3) (n : Int) =
   if B ≤ R * 2 + A / 2 ^ n % 2 then value_wide_quo_l1 (mkW s A) (mkW t B) k (wd (Q ||| 2 ^ n) 0) (wd (Q ||| 2 ^ n) 1) (wd (Q ||| 2 ^ n) 2) (wd (Q ||| 2 ^ n) 3) false (wd (R * 2 + A / 2 ^ n % 2 - B) 0) (wd (R * 2 + A / 2 ^ n % 2 - B) 1) (wd (R * 2 + A / 2 ^ n % 2 - B) 2) (wd (R * 2 + A / 2 ^ n % 2 - B) 3) ((n : Int) - 1)
   else value_wide_quo_l1 (mkW s A) (mkW t B) k (wd Q 0) (wd Q 1) (wd Q 2) (wd Q 3) b (wd (R * 2 + A / 2 ^ n % 2) 0) (wd (R * 2 + A / 2 ^ n % 2) 1) (wd (R * 2 + A / 2 ^ n % 2) 2) (wd (R * 2 + A / 2 ^ n % 2) 3) ((n : Int) - 1) := by
 rw [value_wide_quo_l1, show decide ((0 : Int) ≤ (n : Int)) = true by simp, ift_true]
 have e1 : value_wide_times (GWide.mk b ((wd R 0 : Int), (wd R 1 : Int), (wd R 2 : Int), (wd R 3 : Int))) (2 : Int) = some (mkW b (R * 2)) := times_mk b R 2 (by decide) (by omega) (by omega)
 rw [e1, bnd_some']
 have e3 : IntKind.i64.wrap ((n : Int).tdiv 64) = ((n / 64 : Nat) : Int) := by
  rw [Int.tdiv_eq_ediv_of_nonneg (by omega), w64 (by omega) (by omega)]; omega
 have e4 : (n : Int).tmod 64 = ((n % 64 : Nat) : Int) := by
  rw [Int.tmod_eq_emod_of_nonneg (by omega)]; omega
 have hs : n % 64 < 64 := Nat.mod_lt _ (by decide)
 have hbit : A / 2 ^ n % 2 < 2 := Nat.mod_lt _ (by decide)
 have hb2 := bit_wd A n
 generalize hbb : A / 2 ^ n % 2 = bit at *
 obtain ⟨w0, w1, w2, w3⟩ := wd_bit R bit hbit
 have fin := quo_j1 (value_wide_quo_l1 (mkW s A) (mkW t B) k) t b B Q (R * 2 + bit) n hn hB (by omega) (mkW b (R * 2)) rfl (by rw [← w1]; rfl) (by rw [← w2]; rfl) (by rw [← w3]; rfl)
 rw [e3, e4, min64 _ hs]
 simp only [bnd_some']
 have key : ∀ j, n / 64 = j → IntKind.u64.wrap ((BitVec.ofInt (IntKind.u64).bits (mkW b (R * 2)).size.1 ||| BitVec.ofInt (IntKind.u64).bits (IntKind.u64.wrap ((BitVec.ofInt (IntKind.u64).bits ((wd A j : Int).fdiv (2 ^ (n % 64))) &&& BitVec.ofInt (IntKind.u64).bits (1 : Int)).toNat : Int))).toNat : Int) = (wd (R * 2 + bit) 0 : Int) := by
  intro j hj
  subst hj
  have hlt : wd A (n / 64) / 2 ^ (n % 64) < 18446744073709551616 := Nat.lt_of_le_of_lt (Nat.div_le_self _ _) (wd_lt _ _)
  rw [fd, and1 _ hlt, hb2, show (mkW b (R * 2)).size.1 = (wd (R * 2) 0 : Int) from rfl, or64 _ _ (wd_lt _ _) (by omega), w0]
 have hc : n / 64 = 0 ∨ n / 64 = 1 ∨ n / 64 = 2 ∨ n / 64 = 3 := by omega
 have hg : (0 : Int) ≤ ((n % 64 : Nat) : Int) := by omega
 simp only [grd, if_pos hg]
 rcases hc with hc | hc | hc | hc
 ·rw [hc, show (((0 : Nat) : Int) == (0 : Int)) = true from rfl, ift_true]
  have := key 0 hc
  rw [show (mkW s A).size.1 = (wd A 0 : Int) from rfl, this]; exact fin
 ·rw [hc, show (((1 : Nat) : Int) == (0 : Int)) = false from rfl, show (((1 : Nat) : Int) == (1 : Int)) = true from rfl, ift_false, ift_true]
  have := key 1 hc
  rw [show (mkW s A).size.2.1 = (wd A 1 : Int) from rfl, this]; exact fin
 ·rw [hc, show (((2 : Nat) : Int) == (0 : Int)) = false from rfl, show (((2 : Nat) : Int) == (1 : Int)) = false from rfl, show (((2 : Nat) : Int) == (2 : Int)) = true from rfl, ift_false, ift_false, ift_true]
  have := key 2 hc
  rw [show (mkW s A).size.2.2.1 = (wd A 2 : Int) from rfl, this]; exact fin
 ·rw [hc, show (((3 : Nat) : Int) == (0 : Int)) = false from rfl, show (((3 : Nat) : Int) == (1 : Int)) = false from rfl, show (((3 : Nat) : Int) == (2 : Int)) = false from rfl, show (((3 : Nat) : Int) == (3 : Int)) = true from rfl, ift_false, ift_false, ift_false, ift_true]
  have := key 3 hc
  rw [show (mkW s A).size.2.2.2 = (wd A 3 : Int) from rfl, this]; exact fin

theorem div_step (P B bit : Nat) (hB : 0 < B) (hb : bit < 2) :
  (B ≤ P % B * 2 + bit → (2 * P + bit) / B = 2 * (P / B) + 1 ∧ (2 * P + bit) % B = P % B * 2 + bit - B) ∧
  (¬ B ≤ P % B * 2 + bit → (2 * P + bit) / B = 2 * (P / B) ∧ (2 * P + bit) % B = P % B * 2 + bit) := by
 have h := Nat.div_add_mod P B
 have hm := Nat.mod_lt P hB
 have e : B * (2 * (P / B)) = 2 * (B * (P / B)) := by rw [Nat.mul_left_comm]
 constructor
 ·intro hc
  have e2 : B * (2 * (P / B) + 1) = B * (2 * (P / B)) + B := by rw [Nat.mul_add, Nat.mul_one]
  exact (Nat.div_mod_unique hB).2 ⟨by omega, by omega⟩
 ·intro hc
  exact (Nat.div_mod_unique hB).2 ⟨by omega, by omega⟩

theorem quo_loop (s t : Bool) (A B : Nat) (hB0 : 0 < B) (hB : B < 57896044618658097711785492504343953926634992332820282019728792003956564819968) : ∀ (n k : Nat) (b : Bool), n ≤ 256 → n < k →
  value_wide_quo_l1 (mkW s A) (mkW t B) k (wd (2 ^ n * (A / 2 ^ n / B)) 0) (wd (2 ^ n * (A / 2 ^ n / B)) 1) (wd (2 ^ n * (A / 2 ^ n / B)) 2) (wd (2 ^ n * (A / 2 ^ n / B)) 3) b (wd (A / 2 ^ n % B) 0) (wd (A / 2 ^ n % B) 1) (wd (A / 2 ^ n % B) 2) (wd (A / 2 ^ n % B) 3) ((n : Int) - 1) = some (mkW (!(s == t)) (A / B), mkW s (A % B)) := by
 intro n
 induction n with
 | zero =>
  intro k b hn hk
  obtain ⟨k, rfl⟩ : ∃ q, k = q + 1 := ⟨k - 1, by omega⟩
  rw [value_wide_quo_l1, show decide ((0 : Int) ≤ ((0 : Nat) : Int) - 1) = false from rfl, ift_false, Nat.pow_zero, Nat.one_mul, Nat.div_one]
  rfl
 | succ n ih =>
  intro k b hn hk
  obtain ⟨k, rfl⟩ : ∃ q, k = q + 1 := ⟨k - 1, by omega⟩
  have hA : A / 2 ^ n = 2 * (A / 2 ^ (n + 1)) + A / 2 ^ n % 2 := by
   rw [Nat.pow_succ, ← Nat.div_div_eq_div_mul]; omega
  rw [show ((n + 1 : Nat) : Int) - 1 = (n : Int) by omega, quo_step s t b A B _ _ n k (by omega) hB (Nat.mod_lt _ hB0)]
  obtain ⟨d1, d2⟩ := div_step (A / 2 ^ (n + 1)) B (A / 2 ^ n % 2) hB0 (Nat.mod_lt _ (by decide))
  rw [← hA] at d1 d2
  by_cases hc : B ≤ A / 2 ^ (n + 1) % B * 2 + A / 2 ^ n % 2
  ·rw [if_pos hc]
   obtain ⟨q1, q2⟩ := d1 hc
   rw [← q2]
   have hq : 2 ^ (n + 1) * (A / 2 ^ (n + 1) / B) ||| 2 ^ n = 2 ^ n * (A / 2 ^ n / B) := by
    rw [← Nat.two_pow_add_eq_or_of_lt (Nat.pow_lt_pow_right (by decide) (by omega)), q1, Nat.pow_succ, Nat.mul_add, Nat.mul_one, Nat.mul_assoc]
   rw [hq]
   exact ih k false (by omega) (by omega)
  ·rw [if_neg hc]
   obtain ⟨q1, q2⟩ := d2 hc
   rw [← q2]
   have hq : 2 ^ (n + 1) * (A / 2 ^ (n + 1) / B) = 2 ^ n * (A / 2 ^ n / B) := by
    rw [q1, Nat.pow_succ, Nat.mul_assoc]
   rw [hq]
   exact ih k b (by omega) (by omega)

theorem quo_mk (s t : Bool) (A B : Nat) (hA : A < 115792089237316195423570985008687907853269984665640564039457584007913129639936) (hB0 : 0 < B) (hB : B < 57896044618658097711785492504343953926634992332820282019728792003956564819968) :
  value_wide_quo (mkW s A) (mkW t B) = some (mkW (!(s == t)) (A / B), mkW s (A % B)) := by
 have h := quo_loop s t A B hB0 hB 256 BIG false (Nat.le_refl _) (by rw [big_val]; omega)
 have hz : A / 2 ^ 256 = 0 := Nat.div_eq_of_lt hA
 rw [hz, Nat.zero_div, Nat.mul_zero, Nat.zero_mod] at h
 exact h

def rhn (A B : Nat) : Nat := if B < A % B * 2 ∨ (A % B * 2 = B ∧ A / B % 2 = 1) then A / B + 1 else A / B

theorem rhn_le (A B : Nat) : rhn A B ≤ A / B + 1 := by unfold rhn; split <;> omega

theorem rounded_mk (s t : Bool) (A B : Nat) (hA : A < 57896044618658097711785492504343953926634992332820282019728792003956564819968) (hB0 : 0 < B) (hB : B < 57896044618658097711785492504343953926634992332820282019728792003956564819968) :
  value_wide_rounded (mkW s A) (mkW t B) = some (mkW (!(s == t)) (rhn A B)) := by
 unfold value_wide_rounded
 have hm := Nat.mod_lt A hB0
 have hd := Nat.div_le_self A B
 rw [eta_w, eta_w, quo_mk s t A B (by omega) hB0 hB, bnd_some']
 simp only
 have e1 : value_wide_times (mkW s (A % B)) (2 : Int) = some (mkW s (A % B * 2)) := times_mk s (A % B) 2 (by decide) (by omega) (by omega)
 rw [eta_w, e1, bnd_some', eta_w, csize_mk s t (A % B * 2) B (by omega) (by omega), bnd_some']
 rw [show (mkW (!(s == t)) (A / B)).size.1 = (wd (A / B) 0 : Int) from rfl, and1 _ (wd_lt _ _), bnd_some']
 have hbit : wd (A / B) 0 % 2 = A / B % 2 := by rw [wd0]; omega
 rw [hbit]
 have up : value_wide_rounded_j1 (mkW (!(s == t)) (A / B), mkW s (A % B)) true = some (mkW (!(s == t)) (A / B + 1)) := by
  unfold value_wide_rounded_j1
  rw [ift_true, whole_mk 1 (by decide) (by decide), bnd_some']
  have := plus_same_mk 1152921504606846975 (!(s == t)) (A / B) 1 (by omega)
  have e : value_wide_plus BIG (GWide.mk (mkW (!(s == t)) (A / B)).neg ((mkW (!(s == t)) (A / B)).size.1, (mkW (!(s == t)) (A / B)).size.2.1, (mkW (!(s == t)) (A / B)).size.2.2.1, (mkW (!(s == t)) (A / B)).size.2.2.2)) (GWide.mk (mkW (!(s == t)) (A / B)).neg ((mkW (decide ((1 : Int) < 0)) (Int.natAbs 1)).size.1, (mkW (decide ((1 : Int) < 0)) (Int.natAbs 1)).size.2.1, (mkW (decide ((1 : Int) < 0)) (Int.natAbs 1)).size.2.2.1, (mkW (decide ((1 : Int) < 0)) (Int.natAbs 1)).size.2.2.2)) = some (mkW (!(s == t)) (A / B + 1)) := this
  rw [e, bnd_some']
  rfl
 have down : value_wide_rounded_j1 (mkW (!(s == t)) (A / B), mkW s (A % B)) false = some (mkW (!(s == t)) (A / B)) := rfl
 unfold rhn
 by_cases h1 : B < A % B * 2
 ·rw [show decide ((0 : Int) < c3 ((A % B * 2 : Nat) : Int) (B : Int)) = true by unfold c3; rw [if_neg (by omega), if_pos (by omega)]; rfl, ift_true, if_pos (.inl h1)]
  exact up
 ·by_cases h2 : A % B * 2 = B
  ·rw [show c3 ((A % B * 2 : Nat) : Int) (B : Int) = 0 by unfold c3; rw [if_neg (by omega), if_neg (by omega)]]
   rw [show decide ((0 : Int) < 0) = false from rfl, show ((0 : Int) == 0) = true from rfl, ift_false, ift_true]
   by_cases h3 : A / B % 2 = 1
   ·rw [h3, if_pos (.inr ⟨h2, rfl⟩)]; exact up
   ·rw [if_neg (by omega), show (((A / B % 2 : Nat) : Int) == (1 : Int)) = false by simp; omega]; exact down
  ·rw [show c3 ((A % B * 2 : Nat) : Int) (B : Int) = -1 by unfold c3; rw [if_pos (by omega)]]
   rw [show decide ((0 : Int) < -1) = false from rfl, show ((-1 : Int) == 0) = false from rfl, ift_false, ift_false, if_neg (by omega)]
   exact down

theorem number_mk (s : Bool) (A : Nat) (hA : A < 115792089237316195423570985008687907853269984665640564039457584007913129639936) : value_wide_number (mkW s A) = some (if A < 9223372036854775808 then (sgv s A, true) else (0, false)) := by
 unfold value_wide_number
 rw [show (mkW s A).size.2.1 = (wd A 1 : Int) from rfl, show (mkW s A).size.2.2.1 = (wd A 2 : Int) from rfl, show (mkW s A).size.2.2.2 = (wd A 3 : Int) from rfl, show (mkW s A).size.1 = (wd A 0 : Int) from rfl, or64 _ _ (wd_lt _ _) (wd_lt _ _), bnd_some', or64 _ _ (Nat.or_lt_two_pow (n := 64) (wd_lt _ _) (wd_lt _ _)) (wd_lt _ _), bnd_some']
 have hz : (wd A 1 ||| wd A 2 ||| wd A 3 = 0) ↔ A < 18446744073709551616 := by
  rw [Nat.or_eq_zero_iff, Nat.or_eq_zero_iff, wd1, wd2, wd3]; omega
 have bad : value_wide_number_j1 (mkW s A) true = some (0, false) := rfl
 by_cases h : A < 18446744073709551616
 ·rw [hz.2 h, show ((((0 : Nat) : Int)) != (0 : Int)) = false from rfl, ift_false]
  have hw : wd A 0 = A := by rw [wd0]; omega
  rw [hw]
  by_cases h2 : A < 9223372036854775808
  ·rw [show decide ((9223372036854775808 : Int) ≤ (A : Int)) = false by simp; omega, if_pos h2]
   unfold value_wide_number_j1
   rw [ift_false, show (mkW s A).neg = s from rfl, show (mkW s A).size.1 = (wd A 0 : Int) from rfl, hw, w64 (x := (A : Int)) (by omega) (by omega), w64 (x := 0 - (A : Int)) (by omega) (by omega)]
   cases s
   ·rfl
   ·simp only [ift_true, sgv]; simp
  ·rw [show decide ((9223372036854775808 : Int) ≤ (A : Int)) = true by simp; omega, if_neg h2]; exact bad
 ·have hne : wd A 1 ||| wd A 2 ||| wd A 3 ≠ 0 := fun e => h (hz.1 e)
  rw [show ((((wd A 1 ||| wd A 2 ||| wd A 3 : Nat) : Int)) != (0 : Int)) = true by simp only [bne_iff_ne, ne_eq]; omega, ift_true, if_neg (by omega)]; exact bad

end Go.Proofs.YtdbfodeghijdlaaDoor
namespace Go.Proofs.YtdbfodeghijdlaaDoor
open Go Go.SX Go.SX.Cal Go.Lib
set_option linter.unusedVariables false
set_option linter.unusedSimpArgs false

def sg (b : Bool) (z : Int) : Int := if b = true then -z else z

structure RWn (w : RWide) (z : Int) (N : Nat) : Prop where
 d : digs w.d
 t : top w.d
 l : w.d.length ≤ N
 b : w.below = true → w.d ≠ []
 v : z = sg w.below (dval w.d)

theorem dval_zero {l : List Int} (h : digs l) (t : top l) : dval l = 0 ↔ l = [] := by
 constructor
 ·intro e
  cases hl : l with
  | nil => rfl
  | cons x m =>
   have h1 := dval_ge h t (by simp [hl])
   have h2 := p10_pos (l.length - 1)
   omega
 ·rintro rfl; rfl

theorem rcut (b : Bool) (d : List Int) (N : Nat) (hl : d.length ≤ N) (hN : N < 1000000) (hd : digs d) : ∃ w, ref1_cut b d = some w ∧ RWn w (sg b (dval d)) N := by
 obtain ⟨d', h1, h2, h3, h4, h5⟩ := cut_eq b d (by omega) hd
 refine ⟨_, h1, h2, h3, by show d'.length ≤ N; omega, ?_, ?_⟩
 ·intro hb e
  have hb : (b && decide (0 < d'.length)) = true := hb
  have e : d' = [] := e
  simp [e] at hb
 ·show sg b (dval d) = sg (b && decide (0 < d'.length)) (dval d')
  cases hz : d' with
  | nil => rw [hz] at h4; simp [dval] at h4; simp [← h4, sg, dval]
  | cons x m => rw [← hz, h4]; simp [hz]

theorem rwideOf (n : Int) (h0 : -9223372036854775808 ≤ n) (h1 : n ≤ 9223372036854775807) : ∃ w, ref1_wideOf n = some w ∧ RWn w n 19 := by
 unfold ref1_wideOf
 obtain ⟨d, e1, e2, e3, e4, e5⟩ := wideOf_loop h0 h1 BIG [] n (by simp) (by rw [big_val]; simp) digs_nil (fun _ => top_nil) (by
  simp only [List.length_nil]
  have : p10 (19 - 0) = 10000000000000000000 := by decide
  rw [this]; unfold ab; split <;> omega) h0 h1 (by simp [dval, p10])
 refine ⟨_, e1, e2, e3, e4, ?_, ?_⟩
 ·intro hb e
  simp at hb e
  rw [e] at e5
  simp [dval, ab, hb] at e5
  omega
 ·show n = sg (decide (n < 0)) (dval d)
  rw [e5]
  unfold sg ab
  by_cases h : n < 0
  ·simp [h]
  ·simp [h]

end Go.Proofs.YtdbfodeghijdlaaDoor
namespace Go.Proofs.YtdbfodeghijdlaaDoor
open Go Go.SX Go.SX.Cal Go.Lib
set_option linter.unusedVariables false
set_option linter.unusedSimpArgs false

theorem p10_pow : ∀ n, p10 n = ((10 ^ n : Nat) : Int)
 | 0 => rfl
 | n + 1 => by simp only [p10, p10_pow n, Nat.pow_succ]; push_cast; rfl

theorem RWn.mono {w : RWide} {z : Int} {N M : Nat} (h : RWn w z N) (hm : N ≤ M) : RWn w z M := ⟨h.d, h.t, Nat.le_trans h.l hm, h.b, h.v⟩

theorem RWn.neg {w : RWide} {z : Int} {N : Nat} (h : RWn w z N) : decide (z < 0) = w.below := by
 have h0 := dval_nonneg h.d
 have hv := h.v
 unfold sg at hv
 by_cases hb : w.below = true
 ·rw [if_pos hb] at hv
  have : dval w.d ≠ 0 := fun e => h.b hb ((dval_zero h.d h.t).1 e)
  rw [hb]; simp; omega
 ·rw [if_neg hb] at hv
  have hb' : w.below = false := by simpa using hb
  rw [hb']; simp; omega

theorem RWn.abs {w : RWide} {z : Int} {N : Nat} (h : RWn w z N) : dval w.d = (z.natAbs : Int) := by
 have h0 := dval_nonneg h.d
 have hv := h.v
 unfold sg at hv
 split at hv <;> omega

theorem RWn.nil {w : RWide} {z : Int} {N : Nat} (h : RWn w z N) : (w.d.length = 0) ↔ z = 0 := by
 have := h.abs
 have h2 := dval_zero h.d h.t
 rw [List.length_eq_zero_iff, ← h2]; omega

theorem RWn.lt {w : RWide} {z : Int} {N : Nat} (h : RWn w z N) : (z.natAbs : Int) < p10 N := by
 rw [← h.abs]
 exact Int.lt_of_lt_of_le (dval_lt h.d) (p10_mono h.l)

theorem RWn.tight {w : RWide} {z : Int} {N M : Nat} (h : RWn w z N) (hz : (z.natAbs : Int) < p10 M) : RWn w z M := by
 refine ⟨h.d, h.t, ?_, h.b, h.v⟩
 by_cases hn : w.d = []
 ·simp [hn]
 ·have h1 := dval_ge h.d h.t hn
  rw [h.abs] at h1
  apply Classical.byContradiction
  intro hc
  have := p10_mono (show M ≤ w.d.length - 1 by omega)
  omega

theorem radd {a b : RWide} {x y : Int} {N M : Nat} (ha : RWn a x N) (hb : RWn b y M) (hN : N < 900) (hM : M < 900) : ∃ w, ref1_addWide a b = some w ∧ RWn w (x + y) (max N M + 1) := by
 have hla := ha.l
 have hlb := hb.l
 have hva := ha.v
 have hvb := hb.v
 unfold ref1_addWide
 by_cases he : a.below = b.below
 ·rw [show (a.below == b.below) = true by simp [he], ift_true]
  obtain ⟨r, h1, h2, h3, h4, h5⟩ := plus_eq ha.d hb.d ha.t hb.t (by omega) (by omega)
  rw [h1, bnd_some']
  obtain ⟨w, g1, g2⟩ := rcut a.below r (max N M + 1) (by omega) (by omega) h2
  rw [g1, bnd_some']
  refine ⟨w, rfl, ?_⟩
  have e : sg a.below (dval r) = x + y := by
   rw [h4, hva, hvb, ← he]; unfold sg; split <;> omega
  rw [← e]; exact g2
 ·rw [show (a.below == b.below) = false by simp [he], ift_false]
  obtain ⟨r, h1, h2, h3, h4⟩ := most_eq ha.d hb.d ha.t hb.t (by omega) (by omega)
  rw [h1, bnd_some']
  have hs : ∀ z : Int, sg b.below z = - sg a.below z := fun z => by
   revert he; unfold sg; cases a.below <;> cases b.below <;> simp
  by_cases hr : 0 ≤ r
  ·have hle : dval b.d ≤ dval a.d := by
    unfold c3 at h4
    rw [if_neg (by omega)] at h4
    by_cases h : dval a.d < dval b.d
    ·rw [if_pos h] at h4; split at h4 <;> omega
    ·omega
   rw [show decide ((0 : Int) ≤ r) = true by simpa using hr, ift_true]
   obtain ⟨q, g1, g2, g3, g4, g5⟩ := minus_eq ha.d hb.d hb.t (by omega) hle
   rw [g1, bnd_some']
   obtain ⟨w, k1, k2⟩ := rcut a.below q (max N M + 1) (by omega) (by omega) g2
   rw [k1, bnd_some']
   refine ⟨w, rfl, ?_⟩
   have e : sg a.below (dval q) = x + y := by
    rw [g4, hva, hvb, hs]; unfold sg; split <;> omega
   rw [← e]; exact k2
  ·have hle : dval a.d ≤ dval b.d := by
    unfold c3 at h4
    rw [if_pos (by omega)] at h4
    by_cases h : dval a.d < dval b.d
    ·omega
    ·rw [if_neg h] at h4; split at h4 <;> omega
   rw [show decide ((0 : Int) ≤ r) = false by simp; omega, ift_false]
   obtain ⟨q, g1, g2, g3, g4, g5⟩ := minus_eq hb.d ha.d ha.t (by omega) hle
   rw [g1, bnd_some']
   obtain ⟨w, k1, k2⟩ := rcut b.below q (max N M + 1) (by omega) (by omega) g2
   rw [k1, bnd_some']
   refine ⟨w, rfl, ?_⟩
   have e : sg b.below (dval q) = x + y := by
    rw [g4, hva, hvb, hs, hs]; unfold sg; split <;> omega
   rw [← e]; exact k2

theorem dval_zeros : ∀ k, dval (List.replicate k 0) = 0
 | 0 => rfl
 | k + 1 => by rw [List.replicate_succ]; simp [dval, dval_zeros k]

theorem rtens {a : RWide} {x : Int} {N k : Nat} (ha : RWn a x N) (hN : N < 900) (hk : k < 900) : ∃ w, ref1_tens a (k : Int) = some w ∧ RWn w (x * p10 k) (N + k) := by
 unfold ref1_tens
 by_cases h : a.d.length = 0
 ·rw [show ((a.d.length : Int) == 0) = true by simp [h], ift_true]
  have hx := ha.nil.1 h
  subst hx
  exact ⟨a, rfl, by rw [Int.zero_mul]; exact ha.mono (by omega)⟩
 ·have hl := ha.l
  rw [show ((a.d.length : Int) == 0) = false by simpa using h, ift_false, grd_pos (by omega), grd_pos (by simp; omega)]
  refine ⟨_, rfl, ⟨?_, ?_, ?_, ?_, ?_⟩⟩
  ·intro d hd
   rcases List.mem_append.1 hd with h1 | h1
   ·have := List.eq_of_mem_replicate h1; omega
   ·exact ha.d d h1
  ·intro d hd
   have hne : a.d ≠ [] := by rintro e; simp [e] at h
   simp only at hd
   cases hq : a.d.getLast? with
   | none => exact absurd (List.getLast?_eq_none_iff.1 hq) hne
   | some z =>
    rw [List.getLast?_append, hq] at hd
    simp at hd
    exact ha.t d (by rw [hq, hd])
  ·simp; omega
  ·intro hb e
   simp at e
   exact ha.b hb e.2
  ·simp only
   rw [dval_append, dval_zeros, List.length_replicate, ha.v, show ((k : Int)).toNat = k by omega]
   unfold sg; split
   ·rw [Int.neg_mul, Int.mul_comm, Int.zero_add]
   ·rw [Int.mul_comm, Int.zero_add]

/-! ### products -/

def rhI (A B : Int) : Int := if B < A % B * 2 ∨ (A % B * 2 = B ∧ A / B % 2 = 1) then A / B + 1 else A / B

def rz (x y : Int) : Int := sg (!(decide (x < 0) == decide (y < 0))) (rhI x.natAbs y.natAbs)

theorem reven {a b : RWide} {x y : Int} {N M : Nat} (ha : RWn a x N) (hb : RWn b y M) (hN : N < 390) (hM : M < 390) (hy : y ≠ 0) : ∃ w, ref1_even a b = some w ∧ RWn w (rz x y) (N + 2) := by
 have hla := ha.l
 have hlb := hb.l
 have hp : 0 < dval b.d := by rw [hb.abs]; omega
 have n0 := dval_nonneg ha.d
 unfold ref1_even
 obtain ⟨q, r, h1, h2, h3, h4, h5, h6, h7, h8, h9⟩ := divide_eq ha.d (by omega) hb.d hb.t (by omega) hp
 obtain ⟨rr, g1, g2, g3, g4, g5⟩ := plus_eq h4 h4 h5 h5 (by omega) (by omega)
 obtain ⟨c, k1, k2, k3, k4⟩ := most_eq g2 hb.d g3 hb.t (by omega) (by omega)
 rw [h1, bnd_some', g1, bnd_some', k1, bnd_some']
 rw [g4, h9] at k4
 have fin : ∀ (up : Bool) (z : Int), (up = true → z = dval a.d / dval b.d + 1) → (up = false → z = dval a.d / dval b.d) → sg (!(a.below == b.below)) z = rz x y → ∃ w, ref1_even_j1 a b (q, r) up = some w ∧ RWn w (rz x y) (N + 2) := by
  intro up z hu hd hz
  unfold ref1_even_j1 ref1_even_j2
  cases up with
  | true =>
   obtain ⟨q1, e1, e2, e3, e4, e5⟩ := plus_eq h2 (b := [1]) (fun d hd => by simp at hd; omega) h3 (fun d hd => by simp at hd; omega) (by omega) (by simp)
   rw [ift_true, e1, bnd_some']
   obtain ⟨w, f1, f2⟩ := rcut (!(a.below == b.below)) q1 (N + 2) (by simp at e5; omega) (by omega) e2
   rw [f1, bnd_some']
   refine ⟨w, rfl, ?_⟩
   rw [← hz, hu rfl]
   rw [e4, h8] at f2
   simpa [dval] using f2
  | false =>
   obtain ⟨w, f1, f2⟩ := rcut (!(a.below == b.below)) q (N + 2) (by omega) (by omega) h2
   rw [ift_false, f1, bnd_some']
   refine ⟨w, rfl, ?_⟩
   rw [← hz, hd rfl]
   rw [h8] at f2
   exact f2
 have hrz : rz x y = sg (!(a.below == b.below)) (rhI (dval a.d) (dval b.d)) := by
  unfold rz; rw [ha.neg, hb.neg, ha.abs, hb.abs]
 have hq0 := dval_nonneg h2
 unfold rhI at hrz
 by_cases hc : dval b.d < dval a.d % dval b.d + dval a.d % dval b.d
 ·have : 0 < c := by
   unfold c3 at k4
   rw [if_neg (by omega : ¬ dval a.d % dval b.d + dval a.d % dval b.d < dval b.d), if_pos hc] at k4
   split at k4
   ·omega
   ·split at k4 <;> omega
  rw [show decide ((0 : Int) < c) = true by simpa using this, ift_true]
  rw [if_pos (.inl (by omega))] at hrz
  exact fin true _ (fun _ => rfl) (fun h => by cases h) hrz.symm
 ·have hc0 : ¬ 0 < c := by
   intro h
   unfold c3 at k4
   rw [if_neg (by omega : ¬ c < 0), if_pos h, if_neg hc] at k4
   split at k4 <;> omega
  rw [show decide ((0 : Int) < c) = false by simpa using hc0, ift_false]
  by_cases he : dval a.d % dval b.d + dval a.d % dval b.d = dval b.d
  ·have hcz : c = 0 := by
    unfold c3 at k4
    rw [if_neg (by omega : ¬ dval a.d % dval b.d + dval a.d % dval b.d < dval b.d), if_neg hc] at k4
    split at k4 <;> omega
   subst hcz
   rw [show ((0 : Int) == 0) = true from rfl, ift_true]
   cases q with
   | nil =>
    simp only [List.length_nil]
    rw [show decide ((0 : Int) < ((0 : Nat) : Int)) = false from rfl, ift_false]
    have : dval a.d / dval b.d = 0 := by rw [← h8]; rfl
    rw [if_neg (by rw [this]; omega)] at hrz
    exact fin false _ (fun h => by cases h) (fun _ => rfl) hrz.symm
   | cons u us =>
    have hu := h2 u (by simp)
    rw [show decide ((0 : Int) < (((u :: us).length : Nat) : Int)) = true by simp, ift_true, show at? (u :: us) (0 : Int) = some u from rfl, bnd_some']
    have hpar : u.tmod 2 = dval a.d / dval b.d % 2 := by
     rw [Int.tmod_eq_emod_of_nonneg hu.1, ← h8]; simp only [dval]; omega
    rw [hpar]
    by_cases h1' : dval a.d / dval b.d % 2 = 1
    ·rw [if_pos (.inr ⟨by omega, h1'⟩)] at hrz
     rw [h1']
     exact fin true _ (fun _ => rfl) (fun h => by cases h) hrz.symm
    ·rw [if_neg (by omega)] at hrz
     rw [show (dval a.d / dval b.d % 2 == 1) = false by simpa using h1']
     exact fin false _ (fun h => by cases h) (fun _ => rfl) hrz.symm
  ·have hcz : c ≠ 0 := by
    rintro rfl
    unfold c3 at k4
    rw [if_pos (by omega : dval a.d % dval b.d + dval a.d % dval b.d < dval b.d)] at k4
    simp at k4
   rw [show (c == 0) = false by simpa using hcz, ift_false]
   rw [if_neg (by omega)] at hrz
   exact fin false _ (fun h => by cases h) (fun _ => rfl) hrz.symm

/-! ### values -/

theorem small_loop {w : RWide} (hd : digs w.d) (hl : w.d.length ≤ 18) : ∀ (i k : Nat), i ≤ w.d.length → i < k → ref1_small_l1 w k (dval (w.d.drop i)) ((i : Int) - 1) = ref1_small_j1 w (dval w.d) := by
 intro i
 induction i with
 | zero =>
  intro k hi hk
  obtain ⟨k, rfl⟩ : ∃ q, k = q + 1 := ⟨k - 1, by omega⟩
  rw [ref1_small_l1, show decide ((0 : Int) ≤ ((0 : Nat) : Int) - 1) = false from rfl, ift_false, List.drop_zero]
 | succ i ih =>
  intro k hi hk
  obtain ⟨k, rfl⟩ : ∃ q, k = q + 1 := ⟨k - 1, by omega⟩
  have hi' : i < w.d.length := by omega
  have e := List.drop_eq_getElem_cons hi'
  have d0 : digs (w.d.drop i) := fun x hx => hd x (List.mem_of_mem_drop hx)
  have b1 := dval_lt d0
  have b0 := dval_nonneg d0
  have d1 : digs (w.d.drop (i + 1)) := fun x hx => hd x (List.mem_of_mem_drop hx)
  have b2 := dval_nonneg d1
  have b3 := p10_mono (show (w.d.drop i).length ≤ 18 by simp; omega)
  have b4 : p10 18 = 1000000000000000000 := by decide
  have rd := hd w.d[i] (List.getElem_mem hi')
  have hv : dval (w.d.drop i) = w.d[i] + 10 * dval (w.d.drop (i + 1)) := by rw [e]; rfl
  rw [ref1_small_l1, show ((i + 1 : Nat) : Int) - 1 = (i : Int) by omega, show decide ((0 : Int) ≤ (i : Int)) = true by simp, ift_true, at_nat hi', bnd_some', w64 (x := 10 * dval (w.d.drop (i + 1))) (by omega) (by omega), w64 (x := 10 * dval (w.d.drop (i + 1)) + w.d[i]) (by omega) (by omega), w64 (by omega) (by omega), show 10 * dval (w.d.drop (i + 1)) + w.d[i] = dval (w.d.drop i) by omega]
  exact ih k (by omega) (by omega)

theorem rsmall {w : RWide} {z : Int} {N : Nat} (h : RWn w z N) (hN : N < 900) : ref1_small w = some (if z.natAbs < 1000000000000000000 then (z, true) else (0, false)) := by
 have hl := h.l
 have ha := h.abs
 have hv := h.v
 have b4 : p10 18 = 1000000000000000000 := by decide
 unfold ref1_small
 by_cases hlen : w.d.length ≤ 18
 ·have h1 := dval_lt h.d
  have h2 := p10_mono hlen
  have hs := small_loop h.d hlen w.d.length BIG (Nat.le_refl _) (by rw [big_val]; omega)
  rw [List.drop_length] at hs
  rw [show decide ((18 : Int) < (w.d.length : Int)) = false by simp; omega, ift_false, w64 (by omega) (by omega), show ref1_small_l1 w BIG 0 ((w.d.length : Int) - 1) = ref1_small_l1 w BIG (dval []) ((w.d.length : Int) - 1) from rfl, hs, if_pos (by omega)]
  unfold ref1_small_j1 ref1_small_j2
  unfold sg at hv
  cases hb : w.below
  ·rw [hb] at hv; simp at hv; rw [ift_false, hv]
  ·rw [hb] at hv; simp at hv; rw [ift_true, w64 (by omega) (by omega), hv]; congr 2; omega
 ·have h1 := dval_ge h.d h.t (by rintro e; simp [e] at hlen)
  have h2 := p10_mono (show 18 ≤ w.d.length - 1 by omega)
  rw [show decide ((18 : Int) < (w.d.length : Int)) = true by simp; omega, ift_true, if_neg (by omega)]

def zeroV : GValue := ⟨0, 0, 0, ByteArray.empty, []⟩

def numV (kind z scale : Int) : GValue := if z.natAbs < 1000000000000000000 ∧ soundB ⟨kind, z, scale, ByteArray.empty, []⟩ = true then ⟨kind, z, scale, ByteArray.empty, []⟩ else zeroV

theorem size_plain (k z s : Int) : sizeV ⟨k, z, s, ByteArray.empty, []⟩ < 1000000000 := by
 simp only [sizeV, sizeL]
 have : ByteArray.empty.size = 0 := rfl
 omega

theorem rnumber {w : RWide} {z : Int} {N : Nat} (kind scale : Int) (h : RWn w z N) (hN : N < 900) : ref1_number kind w scale = some (numV kind z scale) := by
 unfold ref1_number numV
 rw [rsmall h hN, bnd_some']
 by_cases hz : z.natAbs < 1000000000000000000
 ·rw [if_pos hz]
  simp only [Bool.not_true, ift_false]
  rw [rSound _ (size_plain _ _ _), bnd_some']
  cases hs : soundB ⟨kind, z, scale, ByteArray.empty, []⟩
  ·rw [if_neg (by simp)]; rfl
  ·rw [if_pos ⟨hz, rfl⟩]; rfl
 ·rw [if_neg hz, if_neg (fun h => hz h.1)]
  rfl

end Go.Proofs.YtdbfodeghijdlaaDoor
namespace Go.Proofs.YtdbfodeghijdlaaDoor
open Go Go.SX Go.SX.Cal Go.Lib
set_option linter.unusedVariables false
set_option linter.unusedSimpArgs false

theorem sound_plain {v : GValue} (h : soundB v = true) : plainOk v = true := by
 unfold soundB soundD at h
 by_cases hc : 256 < cnt v 0 ∨ plainOk v = false
 ·rw [if_pos hc] at h; cases h
 ·rw [not_or] at hc
  simpa using hc.2

theorem sound_bare {k n s : Int} : soundB ⟨k, n, s, ByteArray.empty, []⟩ = plainOk ⟨k, n, s, ByteArray.empty, []⟩ := by
 unfold soundB soundD
 have hc : ¬ 256 < cnt ⟨k, n, s, ByteArray.empty, []⟩ 0 := by unfold cnt; split <;> omega
 cases hp : plainOk ⟨k, n, s, ByteArray.empty, []⟩
 ·rw [if_pos (.inr rfl)]
 ·rw [if_neg (by simp [hc])]; rfl

theorem sound_small {v : GValue} (h : soundB v = true) : v.n.natAbs < 1000000000000000000 := by
 have hp := sound_plain h
 unfold plainOk at hp
 simp only at hp
 split at hp
 ·simp at hp; omega
 split at hp
 ·simp at hp; omega
 split at hp
 ·simp at hp; omega
 split at hp
 ·simp at hp; omega
 split at hp
 ·simp at hp; omega
 split at hp
 ·simp at hp; omega
 split at hp
 ·simp at hp; omega
 split at hp
 ·simp at hp; omega
 ·cases hp

theorem sound_num {v : GValue} (hk : v.kind = 2 ∨ v.kind = 3) (h : soundB v = true) : v.n.natAbs < 1000000000000000000 ∧ 0 ≤ v.scale ∧ v.scale ≤ 12 ∧ v.s.size = 0 ∧ v.items = [] := by
 refine ⟨sound_small h, ?_⟩
 have hp := sound_plain h
 unfold plainOk at hp
 simp only at hp
 rcases hk with hk | hk
 ·simp [hk] at hp
  exact ⟨by omega, by omega, by rw [hp.2.2.1]; rfl, hp.2.2.2⟩
 ·simp [hk] at hp
  exact ⟨by omega, by omega, by rw [hp.2.2.1]; rfl, hp.2.2.2⟩

theorem numV_eq {k z s : Int} : numV k z s = if plainOk ⟨k, z, s, ByteArray.empty, []⟩ = true then ⟨k, z, s, ByteArray.empty, []⟩ else zeroV := by
 unfold numV
 by_cases h : soundB ⟨k, z, s, ByteArray.empty, []⟩ = true
 ·rw [if_pos ⟨sound_small h, h⟩, if_pos (sound_plain h)]
 ·rw [if_neg (fun q => h q.2), if_neg (fun q => h (by rw [sound_bare]; exact q))]

theorem made_mk (kind scale : Int) (s : Bool) (A : Nat) (hA : A < 115792089237316195423570985008687907853269984665640564039457584007913129639936) : value_made kind (mkW s A) scale = some (numV kind (sgv s A) scale) := by
 unfold value_made value_made_j1
 rw [eta_w, number_mk s A hA, bnd_some']
 have habs : (sgv s A).natAbs = A := by unfold sgv; split <;> omega
 by_cases h : A < 9223372036854775808
 ·rw [if_pos h]
  simp only [Bool.not_true, ift_false]
  rw [vSound _ (size_plain _ _ _), bnd_some']
  unfold numV
  cases hs : soundB ⟨kind, sgv s A, scale, ByteArray.empty, []⟩
  ·rw [if_neg (by simp)]; rfl
  ·rw [if_pos ⟨sound_small hs, rfl⟩]; rfl
 ·rw [if_neg h]
  simp only [Bool.not_false, ift_true]
  unfold numV
  rw [if_neg (fun q => by have := q.1; omega)]; rfl

theorem rhI_rhn (A B : Nat) : rhI A B = (rhn A B : Int) := by
 unfold rhI rhn
 have e1 : (A : Int) % (B : Int) = ((A % B : Nat) : Int) := by push_cast; rfl
 have e2 : (A : Int) / (B : Int) = ((A / B : Nat) : Int) := by push_cast; rfl
 rw [e1, e2]
 generalize A % B = m
 generalize A / B = q
 by_cases h : B < m * 2 ∨ (m * 2 = B ∧ q % 2 = 1)
 ·rw [if_pos h, if_pos (by omega)]; push_cast; rfl
 ·rw [if_neg h, if_neg (by omega)]

theorem rz_sgv (x y : Int) : rz x y = sgv (!(decide (x < 0) == decide (y < 0))) (rhn x.natAbs y.natAbs) := by
 unfold rz; rw [rhI_rhn]; rfl

theorem exactly_loop {d : Nat} (q : GValue → GValue → Option Bool) (v : GValue) (hl : v.items.length < 1000000000) (hq : ∀ x ∈ v.items, q x x = some true) : ∀ (m k i : Nat), i + m = v.items.length → m < k → law1_exactly_l1 q v v k (i : Int) = some true := by
 intro m
 induction m with
 | zero =>
  intro k i hi hk
  obtain ⟨k, rfl⟩ : ∃ q, k = q + 1 := ⟨k - 1, by omega⟩
  rw [law1_exactly_l1, show decide ((i : Int) < (v.items.length : Int)) = false by simp; omega, ift_false]; rfl
 | succ m ih =>
  intro k i hi hk
  obtain ⟨k, rfl⟩ : ∃ q, k = q + 1 := ⟨k - 1, by omega⟩
  have hi' : i < v.items.length := by omega
  rw [law1_exactly_l1, dec_lt hi', ift_true, at_nat hi', bnd_some', bnd_some', hq _ (List.getElem_mem hi'), bnd_some', Bool.not_true, ift_false, wrap_succ hi' hl]
  exact ih k (i + 1) (by omega) (by omega)

theorem exactly_refl : ∀ (k : Nat) (v : GValue), sizeV v < k → sizeV v < 1000000000 → law1_exactly k v v = some true := by
 intro k
 induction k with
 | zero => intro v h; omega
 | succ k ih =>
  intro v hk hv
  have hl := sizeL_len v.items
  have he := sizeV_eq v
  rw [law1_exactly, show (v.kind != v.kind) = false by simp, show (v.n != v.n) = false by simp, show (v.scale != v.scale) = false by simp, show (!(v.s.toList == v.s.toList)) = false by simp, show ((v.items.length : Int) != (v.items.length : Int)) = false by simp]
  simp only [ift_false]
  unfold law1_exactly_j1
  rw [ift_false]
  refine exactly_loop (d := 0) _ v (by omega) (fun x hx => ?_) v.items.length BIG 0 (by omega) (by rw [big_val]; omega)
  have := sizeL_mem hx
  exact ih x (by omega) (by omega)

theorem size_numV (k z s : Int) : sizeV (numV k z s) < 1000000000 := by
 unfold numV; split <;> exact size_plain _ _ _

theorem exactly_same (v : GValue) (hv : sizeV v < 1000000000) : law1_exactly BIG v v = some true := exactly_refl BIG v (by rw [big_val]; omega) hv

end Go.Proofs.YtdbfodeghijdlaaDoor
namespace Go.Proofs.YtdbfodeghijdlaaDoor
open Go Go.SX Go.SX.Cal Go.Lib
set_option linter.unusedVariables false
set_option linter.unusedSimpArgs false

theorem sgv_neg {s : Bool} {A : Nat} (h : A ≠ 0) : decide (sgv s A < 0) = s := by
 unfold sgv; cases s <;> simp <;> omega

theorem sgv_abs (s : Bool) (A : Nat) : (sgv s A).natAbs = A := by unfold sgv; split <;> omega

theorem sgv_zero (s : Bool) : sgv s 0 = 0 := by unfold sgv; cases s <;> rfl

theorem rhn_zero (B : Nat) (hB : 0 < B) : rhn 0 B = 0 := by
 unfold rhn
 rw [Nat.zero_mod, Nat.zero_div, if_neg (by omega)]

theorem sgv_rz (s t : Bool) (A B : Nat) (hB : 0 < B) : sgv (!(s == t)) (rhn A B) = rz (sgv s A) (sgv t B) := by
 rw [rz_sgv, sgv_abs, sgv_abs]
 by_cases h : A = 0
 ·subst h; rw [rhn_zero B hB, sgv_zero, sgv_zero]
 ·rw [sgv_neg h, sgv_neg (by omega)]

def okV (v : GValue) (c k s : Int) : Prop := (v.kind = 2 ∨ v.kind = 3) ∧ soundB v = true ∧ (c = 0 ∨ (v.kind = k ∧ v.scale = s))
instance (v : GValue) (c k s : Int) : Decidable (okV v c k s) := by unfold okV; infer_instance

def sumF : List GValue → Int → Int → Int → Int → Option (Int × Int × Int × Int)
 | [], t, c, k, s => some (t, c, k, s)
 | v :: l, t, c, k, s => if v.kind = 0 then sumF l t c k s else if okV v c k s then sumF l (t + v.n) (c + 1) v.kind v.scale else none

theorem vnum (k s : Int) (f : List GField) : value_number ⟨k, s, f⟩ = some (decide (k = 2 ∨ k = 3)) := by
 unfold value_number value_number_j1
 by_cases h : k = 2
 ·simp [h, ift]
 ·rw [show (k == 2) = false by simpa using h, ift_false]
  congr 1
  rw [Bool.eq_iff_iff]; simp [h]

theorem risnum (k : Int) : ref1_isNumber k = some (decide (k = 2 ∨ k = 3)) := by
 unfold ref1_isNumber ref1_isNumber_j1
 by_cases h : k = 2
 ·simp [h, ift]
 ·rw [show (k == 2) = false by simpa using h, ift_false]
  congr 1
  rw [Bool.eq_iff_iff]; simp [h]

def VEnd (o : Option (Int × Int × Int × Int)) (n : Nat) (r : Option (GWide × Int × GType × Int)) : Prop :=
 match o with
 | none => r = some (⟨false, (0, 0, 0, 0)⟩, 0, ⟨0, 0, []⟩, 2)
 | some (T, C, K, S) => ∃ sg A, r = some (mkW sg A, C, ⟨K, S, []⟩, 0) ∧ sgv sg A = T ∧ A ≤ 1000000000000000000 * n

theorem vsum_loop {l : List GValue} (hl : sizeL l < 1000000000) : ∀ (m f i : Nat) (sg : Bool) (A : Nat) (c k s : Int), i + m = l.length → m < f → A ≤ 1000000000000000000 * i → 0 ≤ c → c ≤ i →
  VEnd (sumF (l.drop i) (sgv sg A) c k s) l.length (value_sum_l1 l f sg (wd A 0) (wd A 1) (wd A 2) (wd A 3) k s [] c (i : Int)) := by
 have hlen := sizeL_len l
 intro m
 induction m with
 | zero =>
  intro f i sg A c k s hi hf hA hc hci
  obtain ⟨f, rfl⟩ : ∃ q, f = q + 1 := ⟨f - 1, by omega⟩
  rw [value_sum_l1, show decide ((i : Int) < (l.length : Int)) = false by simp; omega, ift_false, List.drop_of_length_le (by omega)]
  exact ⟨sg, A, rfl, rfl, by rw [show l.length = i by omega]; exact hA⟩
 | succ m ih =>
  intro f i sg A c k s hi hf hA hc hci
  obtain ⟨f, rfl⟩ : ∃ q, f = q + 1 := ⟨f - 1, by omega⟩
  have hil : i < l.length := by omega
  have hsz := sizeL_mem (List.getElem_mem hil)
  rw [value_sum_l1, dec_lt hil, ift_true, at_nat hil, bnd_some', List.drop_eq_getElem_cons hil]
  generalize hv : l[i] = v at *
  have hw : IntKind.i64.wrap ((i : Int) + 1) = ((i + 1 : Nat) : Int) := wrap_succ hil (by omega)
  simp only [sumF]
  by_cases h0 : v.kind = 0
  ·rw [show (v.kind == 0) = true by simpa using h0, ift_true, if_pos h0]
   unfold value_sum_j3
   rw [hw]
   exact ih f (i + 1) sg A c k s (by omega) (by omega) (by omega) hc (by omega)
  ·rw [show (v.kind == 0) = false by simpa using h0, ift_false, if_neg h0]
   have bad : value_sum_j2 (value_sum_l1 l f) sg (wd A 0) (wd A 1) (wd A 2) (wd A 3) c (i : Int) v k s [] true = some (⟨false, (0, 0, 0, 0)⟩, 0, ⟨0, 0, []⟩, 2) := rfl
   have j1 : ∀ k' s', (c = 0 → k' = v.kind ∧ s' = v.scale) → (c ≠ 0 → k' = k ∧ s' = s) →
     VEnd (if okV v c k s then sumF (l.drop (i + 1)) (sgv sg A + v.n) (c + 1) v.kind v.scale else none) l.length (value_sum_j1 (value_sum_l1 l f) sg (wd A 0) (wd A 1) (wd A 2) (wd A 3) c (i : Int) v k' s' []) := by
    intro k' s' hz hnz
    unfold value_sum_j1
    rw [vSound v (by omega), bnd_some', vnum]
    have bad' : value_sum_j2 (value_sum_l1 l f) sg (wd A 0) (wd A 1) (wd A 2) (wd A 3) c (i : Int) v k' s' [] true = some (⟨false, (0, 0, 0, 0)⟩, 0, ⟨0, 0, []⟩, 2) := rfl
    by_cases hs : soundB v = true
    ·rw [hs, Bool.not_true, ift_false, bnd_some']
     by_cases hk : k' = 2 ∨ k' = 3
     ·rw [show decide (k' = 2 ∨ k' = 3) = true by simpa only [decide_eq_true_eq] using hk, Bool.not_true, ift_false]
      by_cases h1 : v.kind = k'
      ·rw [show (v.kind != k') = false by simpa using h1, ift_false]
       by_cases h2 : v.scale = s'
       ·rw [show (v.scale != s') = false by simpa using h2]
        have hok : okV v c k s := by
         refine ⟨by rw [h1]; exact hk, hs, ?_⟩
         by_cases hc0 : c = 0
         ·exact .inl hc0
         ·obtain ⟨q1, q2⟩ := hnz hc0
          exact .inr ⟨by rw [h1, q1], by rw [h2, q2]⟩
        rw [if_pos hok]
        have hn := sound_small hs
        unfold value_sum_j2 value_sum_j3
        rw [ift_false, whole_mk v.n (by omega) (by omega), bnd_some']
        have hA2 : A ≤ 1000000000000000000 * 1000000000 := Nat.le_trans hA (Nat.mul_le_mul_left _ (by omega))
        obtain ⟨u, C, e1, e2, e3⟩ := plus_mk sg (decide (v.n < 0)) A v.n.natAbs (by omega)
        have e1' : value_wide_plus BIG (GWide.mk sg ((wd A 0 : Int), (wd A 1 : Int), (wd A 2 : Int), (wd A 3 : Int))) (GWide.mk (mkW (decide (v.n < 0)) v.n.natAbs).neg ((mkW (decide (v.n < 0)) v.n.natAbs).size.1, (mkW (decide (v.n < 0)) v.n.natAbs).size.2.1, (mkW (decide (v.n < 0)) v.n.natAbs).size.2.2.1, (mkW (decide (v.n < 0)) v.n.natAbs).size.2.2.2)) = some (mkW u C) := e1
        rw [e1', bnd_some', hw, w64 (by omega) (by omega)]
        have hsv : sgv (decide (v.n < 0)) v.n.natAbs = v.n := by
         unfold sgv
         by_cases hneg : v.n < 0
         ·rw [if_pos (by simpa using hneg)]; omega
         ·rw [if_neg (by simpa using hneg)]; omega
        rw [hsv] at e2
        have := ih f (i + 1) u C (c + 1) v.kind v.scale (by omega) (by omega) (by omega) (by omega) (by omega)
        rw [e2] at this
        rw [← h1, ← h2]
        exact this
       ·rw [show (v.scale != s') = true by simpa using h2, if_neg (fun q => by
         rcases q.2.2 with q | q
         ·exact h2 (hz q).2.symm
         ·by_cases hc0 : c = 0
          ·exact h2 (hz hc0).2.symm
          ·exact h2 (q.2.trans (hnz hc0).2.symm))]
        exact bad'
      ·rw [show (v.kind != k') = true by simpa using h1, ift_true, if_neg (fun q => by
        rcases q.2.2 with q | q
        ·exact h1 (hz q).1.symm
        ·by_cases hc0 : c = 0
         ·exact h1 (hz hc0).1.symm
         ·exact h1 (q.1.trans (hnz hc0).1.symm))]
       exact bad'
     ·rw [show decide (k' = 2 ∨ k' = 3) = false by simpa only [decide_eq_false_iff_not] using hk, Bool.not_false, ift_true, if_neg (fun q => by
       by_cases hc0 : c = 0
       ·rw [(hz hc0).1] at hk; exact hk q.1
       ·rcases q.2.2 with q2 | q2
        ·exact hc0 q2
        ·rw [(hnz hc0).1, ← q2.1] at hk; exact hk q.1)]
      exact bad'
    ·rw [show soundB v = false by simpa using hs, Bool.not_false, ift_true, if_neg (fun q => hs q.2.1)]
     exact bad'
   by_cases hc0 : c = 0
   ·rw [show (c == 0) = true by simpa using hc0, ift_true]
    unfold value_kindOf
    rw [bnd_some']
    exact j1 v.kind v.scale (fun _ => ⟨rfl, rfl⟩) (fun q => absurd hc0 q)
   ·rw [show (c == 0) = false by simpa using hc0, ift_false]
    exact j1 k s (fun q => absurd q hc0) (fun _ => ⟨rfl, rfl⟩)

def REnd (o : Option (Int × Int × Int × Int)) (r : Option (RWide × Int × GType × Int)) : Prop :=
 match o with
 | none => r = some (⟨false, []⟩, 0, ⟨0, 0, []⟩, 2)
 | some (T, C, K, S) => ∃ w, r = some (w, C, ⟨K, S, []⟩, 0) ∧ RWn w T 30

theorem rsum_loop {l : List GValue} (hl : sizeL l < 1000000000) : ∀ (m f i : Nat) (b : Bool) (d : List Int) (t c k s : Int), i + m = l.length → m < f → RWn ⟨b, d⟩ t 30 → t.natAbs ≤ 1000000000000000000 * i → 0 ≤ c → c ≤ i →
  REnd (sumF (l.drop i) t c k s) (ref1_added_l1 l f b d k s c (i : Int)) := by
 have hlen := sizeL_len l
 intro m
 induction m with
 | zero =>
  intro f i b d t c k s hi hf hA ht hc hci
  obtain ⟨f, rfl⟩ : ∃ q, f = q + 1 := ⟨f - 1, by omega⟩
  rw [ref1_added_l1, show decide ((i : Int) < (l.length : Int)) = false by simp; omega, ift_false, List.drop_of_length_le (by omega)]
  exact ⟨⟨b, d⟩, rfl, hA⟩
 | succ m ih =>
  intro f i b d t c k s hi hf hA ht hc hci
  obtain ⟨f, rfl⟩ : ∃ q, f = q + 1 := ⟨f - 1, by omega⟩
  have hil : i < l.length := by omega
  have hsz := sizeL_mem (List.getElem_mem hil)
  rw [ref1_added_l1, dec_lt hil, ift_true, at_nat hil, bnd_some', List.drop_eq_getElem_cons hil]
  generalize hv : l[i] = v at *
  have hw : IntKind.i64.wrap ((i : Int) + 1) = ((i + 1 : Nat) : Int) := wrap_succ hil (by omega)
  simp only [sumF]
  by_cases h0 : v.kind = 0
  ·rw [show (v.kind == 0) = true by simpa using h0, ift_true, if_pos h0]
   unfold ref1_added_j2
   rw [hw]
   exact ih f (i + 1) b d t c k s (by omega) (by omega) hA (by omega) hc (by omega)
  ·rw [show (v.kind == 0) = false by simpa using h0, ift_false, if_neg h0, risnum, bnd_some', rSound v (by omega)]
   have bad : ref1_added_j1 (ref1_added_l1 l f) b d c (i : Int) v true = some (⟨false, []⟩, 0, ⟨0, 0, []⟩, 2) := rfl
   have good : okV v c k s → REnd (if okV v c k s then sumF (l.drop (i + 1)) (t + v.n) (c + 1) v.kind v.scale else none) (ref1_added_j1 (ref1_added_l1 l f) b d c (i : Int) v false) := by
    intro hok
    rw [if_pos hok]
    have hn := sound_small hok.2.1
    unfold ref1_added_j1 ref1_added_j2
    obtain ⟨w, w1, w2⟩ := rwideOf v.n (by omega) (by omega)
    obtain ⟨u, u1, u2⟩ := radd hA w2 (by omega) (by omega)
    rw [ift_false, w1, bnd_some', u1, bnd_some', hw, w64 (by omega) (by omega)]
    have ht2 : t.natAbs ≤ 1000000000000000000 * 1000000000 := Nat.le_trans ht (Nat.mul_le_mul_left _ (by omega))
    have hp : p10 30 = 1000000000000000000000000000000 := by decide
    have hb : (t + v.n).natAbs ≤ 1000000000000000000 * (i + 1) := by omega
    exact ih f (i + 1) u.below u.d (t + v.n) (c + 1) v.kind v.scale (by omega) (by omega) (u2.tight (by rw [hp]; omega)) hb (by omega) (by omega)
   by_cases hk : v.kind = 2 ∨ v.kind = 3
   ·rw [show decide (v.kind = 2 ∨ v.kind = 3) = true by simpa only [decide_eq_true_eq] using hk, Bool.not_true, ift_false, bnd_some']
    by_cases hs : soundB v = true
    ·rw [hs, Bool.not_true, ift_false]
     by_cases hc0 : 0 < c
     ·rw [show decide (0 < c) = true by simpa using hc0, ift_true]
      by_cases h1 : v.kind = k
      ·rw [show (v.kind != k) = false by simpa using h1, ift_false]
       by_cases h2 : v.scale = s
       ·rw [show (v.scale != s) = false by simpa using h2]
        exact good ⟨hk, hs, .inr ⟨h1, h2⟩⟩
       ·rw [show (v.scale != s) = true by simpa using h2, if_neg (fun q => q.2.2.elim (fun q => by omega) (fun q => h2 q.2))]
        exact bad
      ·rw [show (v.kind != k) = true by simpa using h1, ift_true, if_neg (fun q => q.2.2.elim (fun q => by omega) (fun q => h1 q.1))]
       exact bad
     ·rw [show decide (0 < c) = false by simpa using hc0, ift_false]
      exact good ⟨hk, hs, .inl (by omega)⟩
    ·rw [show soundB v = false by simpa using hs, Bool.not_false, ift_true, if_neg (fun q => hs q.2.1)]
     exact bad
   ·rw [show decide (v.kind = 2 ∨ v.kind = 3) = false by simpa only [decide_eq_false_iff_not] using hk, Bool.not_false, ift_true, if_neg (fun q => hk q.1)]
    exact bad

theorem vsum_eq (l : List GValue) (hl : sizeL l < 1000000000) : VEnd (sumF l 0 0 0 0) l.length (value_sum l) := by
 unfold value_sum
 have hlen := sizeL_len l
 exact vsum_loop hl l.length BIG 0 false 0 0 0 0 (by omega) (by rw [big_val]; omega) (by omega) (by omega) (by omega)

theorem rsum_eq (l : List GValue) (hl : sizeL l < 1000000000) : REnd (sumF l 0 0 0 0) (ref1_added l) := by
 unfold ref1_added
 have hlen := sizeL_len l
 refine rsum_loop hl l.length BIG 0 false [] 0 0 0 0 (by omega) (by rw [big_val]; omega) ⟨digs_nil, top_nil, by simp, (fun h => by cases h), rfl⟩ (by simp) (by omega) (by omega)

def sumR (l : List GValue) : GValue × Int := match sumF l 0 0 0 0 with
 | none => (zeroV, 2)
 | some (T, C, K, S) => if C = 0 then (zeroV, 0) else (numV K T S, 0)

def mscale (S : Int) : Int := if 12 < S + 6 then 12 else S + 6

def meanR (l : List GValue) : GValue × Int := match sumF l 0 0 0 0 with
 | none => (zeroV, 2)
 | some (T, C, K, S) => if C = 0 then (zeroV, 0) else (numV 3 (rz (T * p10 (mscale S - S).toNat) C) (mscale S), 0)

theorem sumF_end : ∀ {l : List GValue} {t c k s T C K S : Int}, 0 ≤ c → (c ≠ 0 → 0 ≤ s ∧ s ≤ 12) → sumF l t c k s = some (T, C, K, S) → c ≤ C ∧ C ≤ c + l.length ∧ (C ≠ 0 → 0 ≤ S ∧ S ≤ 12)
 | [], t, c, k, s, T, C, K, S, hc, hs, h => by
  simp only [sumF, Option.some.injEq, Prod.mk.injEq] at h
  obtain ⟨rfl, rfl, rfl, rfl⟩ := h
  exact ⟨Int.le_refl _, by simp, hs⟩
 | v :: l, t, c, k, s, T, C, K, S, hc, hs, h => by
  simp only [sumF] at h
  split at h
  ·obtain ⟨h1, h2, h3⟩ := sumF_end hc hs h
   exact ⟨h1, by simp; omega, h3⟩
  ·split at h
   ·rename_i hok
    have hn := sound_num hok.1 hok.2.1
    obtain ⟨h1, h2, h3⟩ := sumF_end (by omega) (fun _ => ⟨hn.2.1, hn.2.2.1⟩) h
    exact ⟨by omega, by simp; omega, h3⟩
   ·cases h

theorem vSum (l : List GValue) (hl : sizeL l < 1000000000) : value_Sum l = some (sumR l) := by
 have h := vsum_eq l hl
 have hlen := sizeL_len l
 unfold value_Sum sumR
 cases ho : sumF l 0 0 0 0 with
 | none =>
  rw [ho] at h
  rw [h, bnd_some']; rfl
 | some o =>
  obtain ⟨T, C, K, S⟩ := o
  rw [ho] at h
  obtain ⟨sg, A, h1, h2, h3⟩ := h
  rw [h1, bnd_some']
  simp only [bne_self_eq_false, ift_false]
  unfold value_Sum_j1
  have hA : A ≤ 1000000000000000000 * 1000000000 := Nat.le_trans h3 (Nat.mul_le_mul_left _ (by omega))
  by_cases hc : C = 0
  ·rw [show (C == 0) = true by simpa using hc, ift_true, if_pos hc]; rfl
  ·rw [show (C == 0) = false by simpa using hc, ift_false, if_neg hc, eta_w, made_mk _ _ _ _ (by omega), bnd_some', h2]

theorem rSum (l : List GValue) (hl : sizeL l < 1000000000) : ref1_Sum l = some (sumR l) := by
 have h := rsum_eq l hl
 unfold ref1_Sum sumR
 cases ho : sumF l 0 0 0 0 with
 | none =>
  rw [ho] at h
  rw [h, bnd_some']; rfl
 | some o =>
  obtain ⟨T, C, K, S⟩ := o
  rw [ho] at h
  obtain ⟨w, h1, h2⟩ := h
  rw [h1, bnd_some']
  simp only [bne_self_eq_false, ift_false]
  unfold ref1_Sum_j1
  by_cases hc : C = 0
  ·rw [show (C == 0) = true by simpa using hc, ift_true, if_pos hc]; rfl
  ·rw [show (C == 0) = false by simpa using hc, ift_false, if_neg hc, rnumber _ _ h2 (by omega), bnd_some']

theorem vMean (l : List GValue) (hl : sizeL l < 1000000000) : value_Mean l = some (meanR l) := by
 have h := vsum_eq l hl
 have hlen := sizeL_len l
 unfold value_Mean meanR
 cases ho : sumF l 0 0 0 0 with
 | none =>
  rw [ho] at h
  rw [h, bnd_some']; rfl
 | some o =>
  obtain ⟨T, C, K, S⟩ := o
  obtain ⟨q1, q2, q3⟩ := sumF_end (by omega) (fun q => absurd rfl q) ho
  rw [ho] at h
  obtain ⟨sg, A, h1, h2, h3⟩ := h
  rw [h1, bnd_some']
  simp only [bne_self_eq_false, ift_false]
  unfold value_Mean_j1
  have hA : A ≤ 1000000000000000000 * 1000000000 := Nat.le_trans h3 (Nat.mul_le_mul_left _ (by omega))
  by_cases hc : C = 0
  ·rw [show (C == 0) = true by simpa using hc, ift_true, if_pos hc]; rfl
  ·obtain ⟨s0, s12⟩ := q3 hc
   obtain ⟨c, hC⟩ : ∃ c : Nat, C = (c : Int) := ⟨C.toNat, by omega⟩
   have hm : (if (12 : Int) < S + 6 then (12 : Int) else S + 6) = mscale S := rfl
   obtain ⟨d, hd⟩ : ∃ d : Nat, mscale S - S = (d : Int) := ⟨(mscale S - S).toNat, by unfold mscale; split <;> omega⟩
   have hd6 : d ≤ 6 := by unfold mscale at hd; split at hd <;> omega
   have hms : 0 ≤ mscale S ∧ mscale S ≤ 12 := by unfold mscale; split <;> omega
   have hpd : (10 : Nat) ^ d ≤ 10 ^ 6 := Nat.pow_le_pow_right (by decide) hd6
   have hAd : A * 10 ^ d ≤ 1000000000000000000000000000 * 10 ^ 6 := Nat.mul_le_mul (by omega) hpd
   rw [show (C == 0) = false by simpa using hc, ift_false, if_neg hc]
   simp only
   rw [w64 (x := S + 6) (by omega) (by omega), bnd_some', hm, w64 (by omega) (by omega), hd, eta_w, shifted_mk _ _ d (by omega) (by omega), bnd_some', hC, whole_mk (c : Int) (by omega) (by omega), bnd_some', eta_w, eta_w, show ((c : Int)).natAbs = c from Int.natAbs_natCast c, show decide ((c : Int) < 0) = false by simp]
   have hr := rhn_le (A * 10 ^ d) c
   have hr2 := Nat.div_le_self (A * 10 ^ d) c
   rw [rounded_mk _ _ _ _ (by omega) (by omega) (by omega), bnd_some', eta_w, made_mk _ _ _ _ (by omega), bnd_some', sgv_rz _ _ _ _ (by omega), Int.toNat_natCast]
   congr 3
   ·congr 1
    unfold sgv at h2 ⊢
    rw [← h2, p10_pow]
    split
    ·rw [Int.neg_mul]; push_cast; rfl
    ·push_cast; rfl

theorem rMean (l : List GValue) (hl : sizeL l < 1000000000) : ref1_Mean l = some (meanR l) := by
 have h := rsum_eq l hl
 have hlen := sizeL_len l
 unfold ref1_Mean meanR
 cases ho : sumF l 0 0 0 0 with
 | none =>
  rw [ho] at h
  rw [h, bnd_some']; rfl
 | some o =>
  obtain ⟨T, C, K, S⟩ := o
  obtain ⟨q1, q2, q3⟩ := sumF_end (by omega) (fun q => absurd rfl q) ho
  rw [ho] at h
  obtain ⟨w, h1, h2⟩ := h
  rw [h1, bnd_some']
  simp only [bne_self_eq_false, ift_false]
  unfold ref1_Mean_j1
  by_cases hc : C = 0
  ·rw [show (C == 0) = true by simpa using hc, ift_true, if_pos hc]; rfl
  ·obtain ⟨s0, s12⟩ := q3 hc
   have j2 : ∀ x, x = mscale S → ref1_Mean_j2 (w, C, ⟨K, S, []⟩, 0) x = some (numV 3 (rz (T * p10 (mscale S - S).toNat) C) (mscale S), 0) := by
    rintro x rfl
    unfold ref1_Mean_j2
    obtain ⟨d, hd⟩ : ∃ d : Nat, mscale S - S = (d : Int) := ⟨(mscale S - S).toNat, by unfold mscale; split <;> omega⟩
    have hd6 : d ≤ 6 := by unfold mscale at hd; split at hd <;> omega
    have hms : 0 ≤ mscale S ∧ mscale S ≤ 12 := by unfold mscale; split <;> omega
    obtain ⟨a, a1, a2⟩ := rtens h2 (k := d) (by omega) (by omega)
    obtain ⟨u, u1, u2⟩ := rwideOf C (by omega) (by omega)
    obtain ⟨e, e1, e2⟩ := reven a2 u2 (by omega) (by omega) hc
    simp only
    rw [w64 (by omega) (by omega), hd, a1, bnd_some', u1, bnd_some', e1, bnd_some', rnumber _ _ e2 (by omega), bnd_some', Int.toNat_natCast]
   rw [show (C == 0) = false by simpa using hc, ift_false, if_neg hc]
   simp only
   rw [w64 (x := S + 6) (by omega) (by omega), bnd_some']
   by_cases h6 : 12 < S + 6
   ·rw [show decide (12 < S + 6) = true by simpa using h6, ift_true]
    exact j2 _ (by unfold mscale; rw [if_pos h6])
   ·rw [show decide (12 < S + 6) = false by simpa using h6, ift_false]
    exact j2 _ (by unfold mscale; rw [if_neg h6])

/-! ### whatever the order is -/

def Good (l : List GValue) (c k s : Int) : Prop := (∀ v ∈ l, v.kind ≠ 0 → (v.kind = 2 ∨ v.kind = 3) ∧ soundB v = true ∧ (c ≠ 0 → v.kind = k ∧ v.scale = s)) ∧ (∀ v ∈ l, ∀ w ∈ l, v.kind ≠ 0 → w.kind ≠ 0 → v.kind = w.kind ∧ v.scale = w.scale)

def tot : List GValue → Int
 | [] => 0
 | v :: l => (if v.kind = 0 then 0 else v.n) + tot l
def num : List GValue → Int
 | [] => 0
 | v :: l => (if v.kind = 0 then 0 else 1) + num l

theorem tot_app : ∀ l m, tot (l ++ m) = tot l + tot m
 | [], m => by simp [tot]
 | v :: l, m => by simp only [List.cons_append, tot, tot_app l m]; omega
theorem num_app : ∀ l m, num (l ++ m) = num l + num m
 | [], m => by simp [num]
 | v :: l, m => by simp only [List.cons_append, num, num_app l m]; omega
theorem tot_rev : ∀ l, tot l.reverse = tot l
 | [] => rfl
 | v :: l => by rw [List.reverse_cons, tot_app, tot_rev l]; simp only [tot]; omega
theorem num_rev : ∀ l, num l.reverse = num l
 | [] => rfl
 | v :: l => by rw [List.reverse_cons, num_app, num_rev l]; simp only [num]; omega
theorem num_pos : ∀ {l}, 0 ≤ num l ∧ (num l ≠ 0 → ∃ v ∈ l, v.kind ≠ 0)
 | [] => ⟨Int.le_refl _, fun h => absurd rfl h⟩
 | v :: l => by
  obtain ⟨h1, h2⟩ := num_pos (l := l)
  simp only [num]
  by_cases h0 : v.kind = 0
  ·rw [if_pos h0]
   refine ⟨by omega, fun h => ?_⟩
   obtain ⟨w, hw, hk⟩ := h2 (by omega)
   exact ⟨w, List.mem_cons_of_mem _ hw, hk⟩
  ·rw [if_neg h0]
   exact ⟨by omega, fun _ => ⟨v, List.mem_cons_self, h0⟩⟩

theorem sumF_good : ∀ {l : List GValue} {t c k s : Int}, 0 ≤ c → Good l c k s → ∃ K S, sumF l t c k s = some (t + tot l, c + num l, K, S) ∧ (c ≠ 0 → K = k ∧ S = s) ∧ ∀ v ∈ l, v.kind ≠ 0 → K = v.kind ∧ S = v.scale
 | [], t, c, k, s, hc, h => ⟨k, s, by simp [sumF, tot, num], fun _ => ⟨rfl, rfl⟩, fun v hv => by cases hv⟩
 | v :: l, t, c, k, s, hc, h => by
  simp only [sumF, tot, num]
  by_cases h0 : v.kind = 0
  ·rw [if_pos h0, if_pos h0, if_pos h0]
   obtain ⟨K, S, e1, e2, e3⟩ := sumF_good (l := l) (t := t) hc ⟨fun w hw => h.1 w (List.mem_cons_of_mem _ hw), fun x hx w hw => h.2 x (List.mem_cons_of_mem _ hx) w (List.mem_cons_of_mem _ hw)⟩
   refine ⟨K, S, by rw [e1, Int.zero_add, Int.zero_add], e2, fun w hw hk => ?_⟩
   rcases List.mem_cons.1 hw with rfl | hw
   ·exact absurd h0 hk
   ·exact e3 w hw hk
  ·obtain ⟨g1, g2, g3⟩ := h.1 v List.mem_cons_self h0
   rw [if_neg h0, if_neg h0, if_neg h0, if_pos ⟨g1, g2, by
    by_cases hc0 : c = 0
    ·exact .inl hc0
    ·exact .inr (g3 hc0)⟩]
   obtain ⟨K, S, e1, e2, e3⟩ := sumF_good (l := l) (t := t + v.n) (c := c + 1) (k := v.kind) (s := v.scale) (by omega) ⟨fun w hw hk => by
    obtain ⟨p1, p2, p3⟩ := h.1 w (List.mem_cons_of_mem _ hw) hk
    exact ⟨p1, p2, fun _ => h.2 w (List.mem_cons_of_mem _ hw) v List.mem_cons_self hk h0⟩, fun x hx w hw => h.2 x (List.mem_cons_of_mem _ hx) w (List.mem_cons_of_mem _ hw)⟩
   obtain ⟨q1, q2⟩ := e2 (by omega)
   refine ⟨K, S, by rw [e1, Int.add_assoc, Int.add_assoc], fun hc0 => ?_, fun w hw hk => ?_⟩
   ·obtain ⟨r1, r2⟩ := g3 hc0
    exact ⟨q1.trans r1, q2.trans r2⟩
   ·rcases List.mem_cons.1 hw with rfl | hw
    ·exact ⟨q1, q2⟩
    ·exact e3 w hw hk

theorem sumF_bad : ∀ {l : List GValue} {t c k s : Int} {o : Int × Int × Int × Int}, 0 ≤ c → sumF l t c k s = some o → Good l c k s
 | [], t, c, k, s, o, hc, h => ⟨(fun v hv => by cases hv), (fun v hv => by cases hv)⟩
 | v :: l, t, c, k, s, o, hc, h => by
  simp only [sumF] at h
  by_cases h0 : v.kind = 0
  ·rw [if_pos h0] at h
   obtain ⟨g1, g2⟩ := sumF_bad hc h
   refine ⟨fun w hw hk => ?_, fun x hx w hw hk hk' => ?_⟩
   ·rcases List.mem_cons.1 hw with rfl | hw
    ·exact absurd h0 hk
    ·exact g1 w hw hk
   ·rcases List.mem_cons.1 hx with rfl | hx
    ·exact absurd h0 hk
    ·rcases List.mem_cons.1 hw with rfl | hw
     ·exact absurd h0 hk'
     ·exact g2 x hx w hw hk hk'
  ·rw [if_neg h0] at h
   split at h
   ·rename_i hok
    obtain ⟨g1, g2⟩ := sumF_bad (by omega) h
    have all : ∀ w ∈ l, w.kind ≠ 0 → w.kind = v.kind ∧ w.scale = v.scale := fun w hw hk => (g1 w hw hk).2.2 (by omega)
    refine ⟨fun w hw hk => ?_, fun x hx w hw hk hk' => ?_⟩
    ·rcases List.mem_cons.1 hw with rfl | hw
     ·refine ⟨hok.1, hok.2.1, fun hc0 => ?_⟩
      rcases hok.2.2 with q | q
      ·exact absurd q hc0
      ·exact q
     ·obtain ⟨p1, p2, _⟩ := g1 w hw hk
      obtain ⟨a1, a2⟩ := all w hw hk
      refine ⟨p1, p2, fun hc0 => ?_⟩
      rcases hok.2.2 with q | q
      ·exact absurd q hc0
      ·exact ⟨a1.trans q.1, a2.trans q.2⟩
    ·have eq : ∀ y ∈ v :: l, y.kind ≠ 0 → y.kind = v.kind ∧ y.scale = v.scale := fun y hy hyk => by
      rcases List.mem_cons.1 hy with rfl | hy
      ·exact ⟨rfl, rfl⟩
      ·exact all y hy hyk
     obtain ⟨a1, a2⟩ := eq x hx hk
     obtain ⟨b1, b2⟩ := eq w hw hk'
     exact ⟨a1.trans b1.symm, a2.trans b2.symm⟩
   ·cases h

theorem good_rev {l : List GValue} {c k s : Int} (h : Good l c k s) : Good l.reverse c k s :=
 ⟨fun v hv => h.1 v (List.mem_reverse.1 hv), fun v hv w hw => h.2 v (List.mem_reverse.1 hv) w (List.mem_reverse.1 hw)⟩

theorem sumR_rev (l : List GValue) : sumR l.reverse = sumR l := by
 unfold sumR
 cases h : sumF l 0 0 0 0 with
 | none =>
  cases h' : sumF l.reverse 0 0 0 0 with
  | none => rfl
  | some o =>
   have g := good_rev (sumF_bad (Int.le_refl _) h')
   rw [List.reverse_reverse] at g
   obtain ⟨K, S, e, _⟩ := sumF_good (t := 0) (Int.le_refl _) g
   rw [h] at e; cases e
 | some o =>
  have g := sumF_bad (Int.le_refl _) h
  obtain ⟨K, S, e, _, e3⟩ := sumF_good (t := 0) (Int.le_refl _) g
  obtain ⟨K', S', e', _, e3'⟩ := sumF_good (t := 0) (Int.le_refl _) (good_rev g)
  rw [h] at e
  rw [Option.some.inj e, e', tot_rev, num_rev]
  simp only [Int.zero_add]
  by_cases hc : num l = 0
  ·rw [if_pos hc, if_pos hc]
  ·rw [if_neg hc, if_neg hc]
   obtain ⟨v, hv, hk⟩ := num_pos.2 hc
   obtain ⟨a1, a2⟩ := e3 v hv hk
   obtain ⟨b1, b2⟩ := e3' v (List.mem_reverse.2 hv) hk
   rw [a1, a2, b1, b2]

/-! ### the law -/

theorem sizeL_app : ∀ l m, sizeL (l ++ m) = sizeL l + sizeL m
 | [], m => by simp [sizeL]
 | v :: l, m => by simp only [List.cons_append, sizeL, sizeL_app l m]; omega
theorem sizeL_rev : ∀ l, sizeL l.reverse = sizeL l
 | [] => rfl
 | v :: l => by rw [List.reverse_cons, sizeL_app, sizeL_rev l]; simp only [sizeL]; omega

theorem back_loop (l : List GValue) (r6 : GValue × Int) (hl : l.length < 1000000000) : ∀ (m f i : Nat), i + m = l.length → m < f →
  law1_ValueSumsMatchSpec_l1 l r6 f (List.replicate (l.length - i) zeroV ++ (l.take i).reverse) (i : Int) = law1_ValueSumsMatchSpec_j3 r6 l.reverse := by
 intro m
 induction m with
 | zero =>
  intro f i hi hf
  obtain ⟨f, rfl⟩ : ∃ q, f = q + 1 := ⟨f - 1, by omega⟩
  rw [law1_ValueSumsMatchSpec_l1, show decide ((i : Int) < (l.length : Int)) = false by simp; omega, ift_false, show l.length - i = 0 by omega, List.take_of_length_le (by omega)]
  rfl
 | succ m ih =>
  intro f i hi hf
  obtain ⟨f, rfl⟩ : ∃ q, f = q + 1 := ⟨f - 1, by omega⟩
  have hil : i < l.length := by omega
  have hidx : ((l.length : Int) - 1 - (i : Int)) = ((l.length - 1 - i : Nat) : Int) := by omega
  rw [law1_ValueSumsMatchSpec_l1, dec_lt hil, ift_true, at_nat hil, bnd_some', w64 (x := (l.length : Int) - 1) (by omega) (by omega), w64 (by omega) (by omega), bnd_some', hidx]
  have hlen : l.length - 1 - i < (List.replicate (l.length - i) zeroV ++ (l.take i).reverse).length := by simp; omega
  rw [at_nat hlen, bnd_some', Int.toNat_natCast, wrap_succ hil hl]
  have e : (List.replicate (l.length - i) zeroV ++ (l.take i).reverse).set (l.length - 1 - i) l[i] = List.replicate (l.length - (i + 1)) zeroV ++ (l.take (i + 1)).reverse := by
   rw [List.set_append_left _ _ (by simp; omega), List.take_succ_eq_append_getElem hil, List.reverse_append, List.reverse_singleton, show l.length - i = (l.length - (i + 1)) + 1 by omega, List.replicate_succ', List.set_append_right _ _ (by simp; omega), List.append_assoc]
   congr 1
   simp only [List.length_replicate]
   rw [show l.length - 1 - i - (l.length - (i + 1)) = 0 by omega]
   rfl
  rw [e]
  exact ih f (i + 1) (by omega) (by omega)

theorem size_sumR (l : List GValue) : sizeV (sumR l).1 < 1000000000 := by
 unfold sumR
 split
 ·exact size_plain _ _ _
 ·split
  ·exact size_plain _ _ _
  ·exact size_numV _ _ _

theorem size_meanR (l : List GValue) : sizeV (meanR l).1 < 1000000000 := by
 unfold meanR
 split
 ·exact size_plain _ _ _
 ·split
  ·exact size_plain _ _ _
  ·exact size_numV _ _ _

theorem law_sums (l : List GValue) (hl : sizeL l < 1000000000) : law1_ValueSumsMatchSpec l = some true := by
 have hlen := sizeL_len l
 unfold law1_ValueSumsMatchSpec law1_number
 simp only [bnd_some']
 have hs1 : sizeL [⟨2, 1, 0, ByteArray.empty, []⟩, ⟨2, 2, 0, ByteArray.empty, []⟩] < 1000000000 := by
  have h1 := size_plain 2 1 0
  simp only [sizeL, sizeV, show ByteArray.empty.size = 0 from rfl]; omega
 rw [vSum _ hs1, bnd_some']
 have e : sumR [⟨2, 1, 0, ByteArray.empty, []⟩, ⟨2, 2, 0, ByteArray.empty, []⟩] = (⟨2, 3, 0, ByteArray.empty, []⟩, 0) := by
  unfold sumR
  have h1 : soundB ⟨2, 1, 0, ByteArray.empty, []⟩ = true := by rw [sound_bare]; decide
  have h2 : soundB ⟨2, 2, 0, ByteArray.empty, []⟩ = true := by rw [sound_bare]; decide
  simp only [sumF]
  rw [if_neg (by decide), if_pos ⟨.inl rfl, h1, .inl rfl⟩, if_neg (by decide), if_pos ⟨.inl rfl, h2, .inr ⟨rfl, rfl⟩⟩]
  simp only
  rw [if_neg (by decide), numV_eq, if_pos (by decide)]
  rfl
 rw [e]
 simp only [bne_self_eq_false, ift_false]
 rw [exactly_same _ (size_plain _ _ _), bnd_some', Bool.not_true]
 unfold law1_ValueSumsMatchSpec_j1
 rw [ift_false, vSum l hl, bnd_some', rSum l hl, bnd_some', vMean l hl, bnd_some', rMean l hl, bnd_some']
 simp only [bne_self_eq_false, ift_false]
 rw [exactly_same _ (size_sumR l), bnd_some', Bool.not_true, ift_false, exactly_same _ (size_meanR l), bnd_some', Bool.not_true]
 unfold law1_ValueSumsMatchSpec_j2
 rw [ift_false, grd_pos (by omega), Int.toNat_natCast]
 have hb := back_loop l (sumR l) (by omega) l.length BIG 0 (by omega) (by rw [big_val]; omega)
 simp only [Nat.sub_zero, List.take_zero, List.reverse_nil, List.append_nil] at hb
 have hb' : law1_ValueSumsMatchSpec_l1 l (sumR l) BIG (List.replicate l.length (GValue.mk 0 0 0 ByteArray.empty [])) 0 = law1_ValueSumsMatchSpec_j3 (sumR l) l.reverse := hb
 rw [hb']
 unfold law1_ValueSumsMatchSpec_j3 law1_ValueSumsMatchSpec_j4
 rw [vSum _ (by rw [sizeL_rev]; exact hl), bnd_some', sumR_rev]
 simp only [beq_self_eq_true, ift_true]
 rw [exactly_same _ (size_sumR l), bnd_some']

end Go.Proofs.YtdbfodeghijdlaaDoor
