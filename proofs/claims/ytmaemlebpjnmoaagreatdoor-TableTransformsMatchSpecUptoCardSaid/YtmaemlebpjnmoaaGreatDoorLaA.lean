/- The calendar, in plain integers. What needs no program: searches, bytes, sizes, words, digits. Sound of both sides. Values and types as they are read. The reference's integers: their digits. The reference's integers: differences, quotients, rounding. Numbers of 256 bits: what each operation of the program computes, as equations. Division of numbers of 256 bits, rounding, and values made of them. The reference's integers, in plain terms. The reference's integers: sums, products, quotients, values made of them. Values made of numbers on both sides; Round. Keys and hashes: the same bytes on both sides. Types of both sides. Types of both sides. Types of both sides. What the clocks of the program compute. The zones' clocks. The clocks lead back. What the reference computes for civil time. The law 'ValueTimeMatchesSpec', in plain terms. The first characters of a text, in two ways. TransformType of both sides. Transform of both sides. Transform of both sides gives the same. Transform of both sides gives the same. TransformType and Transform are as specified. -/
import Derived.Lib.ValidU
import Derived.Lib.ValidLaws
import Derived.Test.YtmaemlebpjnmoaaGreatDoorGeC
namespace Go.SX.Cal
open Go
set_option linter.unusedVariables false

theorem w64 {x : Int} (h1 : -9223372036854775808 ≤ x) (h2 : x ≤ 9223372036854775807) : IntKind.i64.wrap x = x := by
 simp only [IntKind.wrap, IntKind.bits, IntKind.signed]
 simp only [Bool.true_and, decide_eq_true_eq, ge_iff_le]
 split <;> omega

/-! ### years of an era -/

def S (y : Int) : Int := 365 * y + y / 4 - y / 100
def F (r : Int) : Int := r - r / 1460 + r / 36524
def yr (r : Int) : Int := (r - r / 1460 + r / 36524 - r / 146096) / 365

theorem table : ((List.range 400).all fun y => decide (F (S (y : Int)) / 365 = y ∧ F (S ((y : Int) + 1) - 1) / 365 = y)) = true := by decide +kernel

theorem table_at {y : Int} (h0 : 0 ≤ y) (h1 : y ≤ 399) : F (S y) / 365 = y ∧ F (S (y + 1) - 1) / 365 = y := by
 have := List.all_eq_true.1 table y.toNat (List.mem_range.2 (by omega))
 have h := of_decide_eq_true this
 rw [Int.toNat_of_nonneg h0] at h
 exact h

theorem F_mono {r s : Int} (h : r ≤ s) : F r ≤ F s := by unfold F; omega

theorem yr_bound {r : Int} (h0 : 0 ≤ r) (h1 : r ≤ 146096) : 0 ≤ yr r ∧ yr r ≤ 399 := by unfold yr; omega

theorem yr_eq {r : Int} (h0 : 0 ≤ r) (h1 : r ≤ 146095) : yr r = F r / 365 := by
 unfold yr F
 have : r / 146096 = 0 := by omega
 rw [this, Int.sub_zero]

def leap (y : Int) : Prop := y % 4 = 0 ∧ (y % 100 ≠ 0 ∨ y % 400 = 0)

instance (y : Int) : Decidable (leap y) := by unfold leap; infer_instance

theorem yr_ok {r : Int} (h0 : 0 ≤ r) (h1 : r ≤ 146096) : S (yr r) ≤ r ∧ r ≤ S (yr r) + 365 ∧ (r = S (yr r) + 365 → leap (yr r + 1)) := by
 obtain ⟨b0, b1⟩ := yr_bound h0 h1
 by_cases hr : r = 146096
 ·subst hr; decide +kernel
 have h2 : r ≤ 146095 := by omega
 have e := yr_eq h0 h2
 generalize yr r = y at *
 have lo : S y ≤ r := by
  apply Classical.byContradiction
  intro hn
  have hy : 1 ≤ y := by
   apply Classical.byContradiction
   intro hy
   have : y = 0 := by omega
   subst this
   simp [S] at hn
   omega
  have t := (table_at (y := y - 1) (by omega) (by omega)).2
  rw [show y - 1 + 1 = y by omega] at t
  have := F_mono (show r ≤ S y - 1 by omega)
  have : F r / 365 ≤ y - 1 := by rw [← t]; exact Int.ediv_le_ediv (by decide) this
  omega
 have hi : r < S (y + 1) ∨ y = 399 := by
  by_cases hy : y = 399
  ·exact .inr hy
  left
  apply Classical.byContradiction
  intro hn
  have t := (table_at (y := y + 1) (by omega) (by omega)).1
  have := F_mono (show S (y + 1) ≤ r by omega)
  have : y + 1 ≤ F r / 365 := by rw [← t]; exact Int.ediv_le_ediv (by decide) this
  omega
 refine ⟨lo, ?_, fun he => ?_⟩
 ·rcases hi with hi | rfl
  ·unfold S at *; omega
  ·simp [S] at *; omega
 ·rcases hi with hi | rfl
  ·unfold S at *
   have h4 : (y + 1) / 4 = y / 4 + 1 ∧ (y + 1) / 100 = y / 100 := by omega
   exact ⟨by omega, .inl (by omega)⟩
  ·simp [S] at *; omega

/-! ### days -/

def mdays (m : Int) : Int := (153 * m + 2) / 5

def days (y m d : Int) : Int :=
 if m ≤ 2 then (y - 1) / 400 * 146097 + S ((y - 1) % 400) + mdays (m + 9) + d - 1 - 719468 else y / 400 * 146097 + S (y % 400) + mdays (m - 3) + d - 1 - 719468

def dim (y m : Int) : Int := if m = 2 then (if leap y then 29 else 28) else if m = 4 ∨ m = 6 ∨ m = 9 ∨ m = 11 then 30 else 31

def date (n : Int) : Int × Int × Int :=
 let era := (n + 719468) / 146097
 let r := (n + 719468) % 146097
 let y := yr r
 let k := r - S y
 let m := (5 * k + 2) / 153
 let d := k - mdays m + 1
 if m + 3 > 12 then (era * 400 + y + 1, m + 3 - 12, d) else (era * 400 + y, m + 3, d)

theorem date_ok (n : Int) : days (date n).1 (date n).2.1 (date n).2.2 = n ∧ 1 ≤ (date n).2.1 ∧ (date n).2.1 ≤ 12 ∧ 1 ≤ (date n).2.2 ∧ (date n).2.2 ≤ dim (date n).1 (date n).2.1 := by
 simp only [date]
 have hr0 : 0 ≤ (n + 719468) % 146097 := by omega
 have hr1 : (n + 719468) % 146097 ≤ 146096 := by omega
 have hn : n + 719468 = (n + 719468) / 146097 * 146097 + (n + 719468) % 146097 := by omega
 generalize (n + 719468) % 146097 = r at *
 generalize (n + 719468) / 146097 = era at *
 obtain ⟨b0, b1⟩ := yr_bound hr0 hr1
 obtain ⟨s0, s1, s2⟩ := yr_ok hr0 hr1
 generalize yr r = y at *
 have hk0 : 0 ≤ r - S y := by omega
 have hk1 : r - S y ≤ 365 := by omega
 have hk2 : r - S y = 365 → leap (y + 1) := fun h => s2 (by omega)
 have hrk : r = S y + (r - S y) := by omega
 generalize r - S y = k at *
 subst hrk
 have hm0 : 0 ≤ (5 * k + 2) / 153 := by omega
 have hm1 : (5 * k + 2) / 153 ≤ 11 := by omega
 have hd : 1 ≤ k - mdays ((5 * k + 2) / 153) + 1 := by unfold mdays; omega
 have hd2 : k ≤ mdays ((5 * k + 2) / 153 + 1) - 1 := by unfold mdays; omega
 generalize hm : (5 * k + 2) / 153 = m at *
 by_cases hc : m + 3 > 12
 ·simp only [hc, if_true]
  have e1 : (era * 400 + y + 1 - 1) / 400 = era := by omega
  have e2 : (era * 400 + y + 1 - 1) % 400 = y := by omega
  refine ⟨?_, by omega, by omega, hd, ?_⟩
  ·unfold days
   rw [if_pos (by omega), e1, e2, show m + 3 - 12 + 9 = m by omega]
   omega
  ·unfold dim
   have hcase : m = 10 ∨ m = 11 := by omega
   rcases hcase with rfl | rfl
   ·simp [mdays] at *; omega
   ·have hL : leap (era * 400 + y + 1) ↔ leap (y + 1) := by unfold leap; omega
    simp only [show (11 : Int) + 3 - 12 = 2 by rfl, if_true]
    by_cases hl : leap (y + 1)
    ·rw [if_pos (hL.2 hl)]; simp [mdays] at *; omega
    ·rw [if_neg (fun h => hl (hL.1 h))]
     have : k ≠ 365 := fun h => hl (hk2 h)
     simp [mdays] at *; omega
 ·simp only [hc, if_false]
  have e1 : (era * 400 + y) / 400 = era := by omega
  have e2 : (era * 400 + y) % 400 = y := by omega
  refine ⟨?_, by omega, by omega, hd, ?_⟩
  ·unfold days
   rw [if_neg (by omega), e1, e2, show m + 3 - 3 = m by omega]
   omega
  ·unfold dim
   rw [if_neg (by omega)]
   have hcase : m = 0 ∨ m = 1 ∨ m = 2 ∨ m = 3 ∨ m = 4 ∨ m = 5 ∨ m = 6 ∨ m = 7 ∨ m = 8 ∨ m = 9 := by omega
   rcases hcase with rfl | rfl | rfl | rfl | rfl | rfl | rfl | rfl | rfl | rfl <;> simp [mdays] at * <;> omega

def E (y : Int) : Int := y / 400 * 146097 + S (y % 400) - 719468

theorem E_leap {y : Int} (h : leap (y + 1)) : E (y + 1) = E y + 366 := by
 unfold E S; unfold leap at h
 by_cases h4 : (y + 1) % 400 = 0
 ·have a1 : (y + 1) / 400 = y / 400 + 1 := by omega
  have a2 : y % 400 = 399 := by omega
  rw [a1, h4, a2]; omega
 ·have a1 : (y + 1) / 400 = y / 400 := by omega
  have a2 : (y + 1) % 400 = y % 400 + 1 := by omega
  rw [a1, a2]
  have hq : 0 ≤ y % 400 ∧ y % 400 ≤ 398 := by omega
  have h5 : (y % 400 + 1) % 4 = 0 := by omega
  have h6 : (y % 400 + 1) % 100 ≠ 0 := by omega
  generalize y % 400 = q at *
  have : (q + 1) / 4 = q / 4 + 1 := by omega
  have : (q + 1) / 100 = q / 100 := by omega
  omega

theorem E_not {y : Int} (h : ¬ leap (y + 1)) : E (y + 1) = E y + 365 := by
 unfold E S; unfold leap at h
 have h4 : (y + 1) % 400 ≠ 0 := by omega
 have a1 : (y + 1) / 400 = y / 400 := by omega
 have a2 : (y + 1) % 400 = y % 400 + 1 := by omega
 rw [a1, a2]
 have hq : 0 ≤ y % 400 ∧ y % 400 ≤ 398 := by omega
 have h5 : (y % 400 + 1) % 4 ≠ 0 ∨ (y % 400 + 1) % 100 = 0 := by omega
 generalize y % 400 = q at *
 by_cases h7 : (q + 1) % 100 = 0
 ·have : (q + 1) / 4 = q / 4 + 1 := by omega
  have : (q + 1) / 100 = q / 100 + 1 := by omega
  omega
 ·have : (q + 1) / 4 = q / 4 := by omega
  have : (q + 1) / 100 = q / 100 := by omega
  omega

theorem days_E (y m d : Int) : days y m d = if m ≤ 2 then E (y - 1) + mdays (m + 9) + d - 1 else E y + mdays (m - 3) + d - 1 := by
 unfold days E; split <;> omega

theorem E_step (y : Int) : (leap (y + 1) ∧ E (y + 1) = E y + 366) ∨ (¬ leap (y + 1) ∧ E (y + 1) = E y + 365) := by
 by_cases h : leap (y + 1)
 ·exact .inl ⟨h, E_leap h⟩
 ·exact .inr ⟨h, E_not h⟩

theorem days_jan (y : Int) : days y 1 1 = E (y - 1) + 306 := by
 rw [days_E, if_pos (by decide)]; simp [mdays]

theorem days_in (y m d : Int) (h0 : 1 ≤ m) (h1 : m ≤ 12) (h2 : 1 ≤ d) (h3 : d ≤ dim y m) : days y 1 1 ≤ days y m 1 ∧ days y m d = days y m 1 + d - 1 ∧ days y m d < days (y + 1) 1 1 := by
 rw [days_jan, days_jan, days_E, days_E, show y + 1 - 1 = y by omega]
 have hE := E_step (y - 1)
 rw [show y - 1 + 1 = y by omega] at hE
 unfold dim at h3
 have hc : m = 1 ∨ m = 2 ∨ m = 3 ∨ m = 4 ∨ m = 5 ∨ m = 6 ∨ m = 7 ∨ m = 8 ∨ m = 9 ∨ m = 10 ∨ m = 11 ∨ m = 12 := by omega
 rcases hE with ⟨hl, hE⟩ | ⟨hl, hE⟩ <;> simp only [hl, if_true, if_false] at h3 <;> rcases hc with rfl | rfl | rfl | rfl | rfl | rfl | rfl | rfl | rfl | rfl | rfl | rfl <;> simp [mdays] at * <;> omega

theorem days_year (y : Int) : days y 1 1 + 365 ≤ days (y + 1) 1 1 ∧ days (y + 1) 1 1 ≤ days y 1 1 + 366 := by
 rw [days_jan, days_jan, show y + 1 - 1 = y by omega]
 have hE := E_step (y - 1)
 rw [show y - 1 + 1 = y by omega] at hE
 omega

theorem days_mono_nat (y : Int) (k : Nat) : days y 1 1 + 365 * k ≤ days (y + k) 1 1 := by
 induction k with
 | zero => simp
 | succ k ih =>
  have := (days_year (y + k)).1
  rw [show y + ((k + 1 : Nat) : Int) = y + k + 1 by omega]
  omega

theorem days_mono {y z : Int} (h : y ≤ z) : days y 1 1 + 365 * (z - y) ≤ days z 1 1 := by
 have := days_mono_nat y (z - y).toNat
 rw [show y + ((z - y).toNat : Int) = z by omega] at this
 omega

theorem year_iff {n y : Int} : (date n).1 = y ↔ days y 1 1 ≤ n ∧ n < days (y + 1) 1 1 := by
 obtain ⟨h1, h2, h3, h4, h5⟩ := date_ok n
 obtain ⟨a1, a2, a3⟩ := days_in _ _ _ h2 h3 h4 h5
 rw [h1] at a2 a3
 constructor
 ·rintro rfl
  exact ⟨by omega, a3⟩
 ·rintro ⟨b1, b2⟩
  apply Classical.byContradiction
  intro hn
  rcases Int.lt_or_gt_of_ne hn with hlt | hgt
  ·have := days_mono (show (date n).1 + 1 ≤ y by omega)
   omega
  ·have := days_mono (show y + 1 ≤ (date n).1 by omega)
   omega

end Go.SX.Cal
namespace Go.SX.Cal
open Go Go.SX Go.Lib
set_option linter.unusedVariables false
set_option linter.unusedSimpArgs false

theorem ift_true {β : Type} (x y : Option β) : ift true x y = x := rfl
theorem ift_false {β : Type} (x y : Option β) : ift false x y = y := rfl
theorem ift_ite {β : Type} (b : Bool) (x y : Option β) : ift b x y = if b = true then x else y := by cases b <;> rfl
theorem big_val : BIG = 1152921504606846976 := rfl

def first (P : Nat → Bool) (i n : Nat) : Option Nat := (List.range' i (n - i)).find? P

theorem first_step {P : Nat → Bool} {i n : Nat} (h : i < n) : first P i n = if P i = true then some i else first P (i + 1) n := by
 unfold first
 rw [show n - i = (n - (i + 1)) + 1 by omega, List.range'_succ, List.find?_cons]
 cases hp : P i <;> simp [hp]

theorem first_end {P : Nat → Bool} {n : Nat} : first P n n = none := by simp [first]

theorem first_none {P : Nat → Bool} {i n : Nat} : first P i n = none ↔ ∀ j, i ≤ j → j < n → P j = false := by
 unfold first
 rw [List.find?_eq_none]
 constructor
 ·intro h j h1 h2
  have := h j (by rw [List.mem_range'_1]; omega)
  simpa using this
 ·intro h j hj
  rw [List.mem_range'_1] at hj
  have := h j (by omega) (by omega)
  simp [this]

theorem search {β : Type} {f : Nat → Nat → Option β} {n : Nat} {P : Nat → Bool} {A : Nat → Option β} {B : Option β} (hstep : ∀ k i, i < n → f (k + 1) i = if P i = true then A i else f k (i + 1)) (hend : ∀ k, f (k + 1) n = B) :
  ∀ k i, i ≤ n → n - i < k → f k i = (first P i n).elim B A := by
 intro k
 induction k with
 | zero => intro i _ h; omega
 | succ k ih =>
  intro i hi hk
  by_cases h : i = n
  ·subst h
   rw [hend, first_end]; rfl
  ·rw [hstep k i (by omega), first_step (by omega)]
   by_cases hp : P i = true
   ·simp [hp]
   ·simp only [hp, if_false]
    exact ih (i + 1) (by omega) (by omega)

def byt (s : ByteArray) (i : Nat) : Nat := (s.data.toList.getD i 0).toNat

theorem get_byt (s : ByteArray) (i : Nat) (h : i < s.size) : (s.get! i).toNat = byt s i := by
 unfold byt
 have h' : i < s.data.size := h
 have : s.get! i = s.data.toList.getD i 0 := by
  simp only [ByteArray.get!, List.getD, Array.getElem?_toList]
  rw [getElem!_pos s.data i h', Array.getElem?_eq_getElem h']; rfl
 rw [this]

theorem decode_lo (s : ByteArray) (i : Nat) (h : i < s.size) (hb : byt s i < 128) : Utf8.decode s i = (byt s i, 1) := by
 have e := get_byt s i h
 unfold Utf8.decode
 simp [e, hb]

theorem decode_hi (s : ByteArray) (i : Nat) (h : i < s.size) (hb : ¬ byt s i < 128) : 128 ≤ (Utf8.decode s i).1 := by
 have e := get_byt s i h
 unfold Utf8.decode
 simp only [Nat.add_zero, e, if_neg hb, Utf8.runeError]
 repeat' split
 all_goals simp_all
 all_goals omega

theorem size_zero (s : ByteArray) : (s.toList == (ByteArray.mk #[]).toList) = decide (s.size = 0) := by
 rw [ByteArray.toList_eq, ByteArray.toList_eq, Bool.eq_iff_iff]
 show (s.data.toList == []) = true ↔ decide (s.data.size = 0) = true
 rw [← Array.length_toList]
 cases s.data.toList <;> simp

mutual
def sizeT : GType → Nat
 | ⟨_, _, fs⟩ => sizeF fs + 1
def sizeF : List (FieldP GType) → Nat
 | [] => 0
 | f :: l => sizeFd f + sizeF l
def sizeFd : FieldP GType → Nat
 | ⟨_, n, _, t⟩ => n.size + sizeT t + 1
end

theorem sizeF_mem : ∀ {l : List GField} {x : GField}, x ∈ l → sizeFd x ≤ sizeF l
 | [], _, h => by cases h
 | y :: l, x, h => by
  simp only [sizeF]
  rcases List.mem_cons.1 h with rfl | h
  ·omega
  ·have := sizeF_mem h; omega

theorem sizeFd_eq : ∀ x : GField, sizeFd x = x.name.size + sizeT x.type + 1
 | ⟨_, _, _, _⟩ => by simp only [sizeFd]

theorem sizeT_eq : ∀ x : GType, sizeT x = sizeF x.fields + 1
 | ⟨_, _, _⟩ => by simp only [sizeT]

theorem sizeF_len : ∀ l : List GField, l.length ≤ sizeF l
 | [] => by simp [sizeF]
 | x :: l => by
  have := sizeF_len l
  have := sizeFd_eq x
  simp only [sizeF, List.length_cons]; omega

theorem wrap_succ {i n : Nat} (h : i < n) (hn : n < 1000000000) : IntKind.i64.wrap ((i : Int) + 1) = ((i + 1 : Nat) : Int) := by rw [w64 (by omega) (by omega)]; omega

theorem at_nat {α : Type} {xs : List α} {i : Nat} (h : i < xs.length) : at? xs (i : Int) = some xs[i] := by unfold at?; simp [h]

theorem dec_lt {i n : Nat} (h : i < n) : decide ((i : Int) < (n : Int)) = true := by simp [h]

mutual
def sizeV : GValue → Nat
 | ⟨_, _, _, s, it⟩ => s.size + sizeL it + 1
def sizeL : List GValue → Nat
 | [] => 0
 | x :: l => sizeV x + sizeL l
end

theorem sizeV_eq : ∀ v : GValue, sizeV v = v.s.size + sizeL v.items + 1
 | ⟨_, _, _, _, _⟩ => by simp only [sizeV]

theorem sizeL_mem : ∀ {l : List GValue} {x : GValue}, x ∈ l → sizeV x ≤ sizeL l
 | [], _, h => by cases h
 | y :: l, x, h => by
  simp only [sizeL]
  rcases List.mem_cons.1 h with rfl | h
  ·omega
  ·have := sizeL_mem h; omega

theorem sizeV_pos : ∀ v : GValue, 1 ≤ sizeV v
 | ⟨_, _, _, _, _⟩ => by simp only [sizeV]; omega

theorem sizeL_len : ∀ l : List GValue, l.length ≤ sizeL l
 | [] => by simp [sizeL]
 | x :: l => by
  have := sizeL_len l
  have := sizeV_pos x
  simp only [sizeL, List.length_cons]; omega

theorem ift_and (b x : Bool) : ift b (some x) (some false) = some (b && x) := by cases b <;> rfl
theorem bnd_some' {α β : Type} (a : α) (f : α → Option β) : bnd (some a) f = f a := rfl

theorem first_skip {P : Nat → Bool} {n : Nat} : ∀ (d i : Nat), i + d ≤ n → (∀ j, i ≤ j → j < i + d → P j = false) → first P i n = first P (i + d) n
 | 0, i, _, _ => rfl
 | d + 1, i, h, hP => by
  rw [first_step (by omega), hP i (by omega) (by omega)]
  simp only [Bool.false_eq_true, if_false]
  rw [first_skip d (i + 1) (by omega) (fun j h1 h2 => hP j (by omega) (by omega))]
  congr 1; omega

theorem decode_skip (s : ByteArray) (i : Nat) (h : i < s.size) (hb : ¬ byt s i < 128) :
  1 ≤ (Utf8.decode s i).2 ∧ i + (Utf8.decode s i).2 ≤ s.size ∧ ∀ j, i ≤ j → j < i + (Utf8.decode s i).2 → 128 ≤ byt s j := by
 have e := get_byt s i h
 have one : ∀ j, i ≤ j → j < i + 1 → 128 ≤ byt s j := fun j h1 h2 => by
  have : j = i := by omega
  subst this; omega
 have ct : ∀ k, (decide (i + k < s.size) && (s.get! (i + k)).toNat / 64 == 2) = true → i + k < s.size ∧ 128 ≤ byt s (i + k) := by
  intro k hk
  simp only [Bool.and_eq_true, decide_eq_true_eq, beq_iff_eq] at hk
  rw [get_byt s _ hk.1] at hk
  exact ⟨hk.1, by omega⟩
 unfold Utf8.decode
 simp only [Nat.add_zero, e, if_neg hb]
 split
 ·rename_i h1
  simp only [Bool.and_eq_true] at h1
  obtain ⟨l1, b1⟩ := ct 1 (by simpa using h1.2)
  split
  ·refine ⟨by simp, by simp only; omega, fun j h2 h3 => ?_⟩
   simp only at h3
   by_cases hj : j = i
   ·subst hj; omega
   ·have : j = i + 1 := by omega
    subst this; exact b1
  ·exact ⟨by simp, by simp only; omega, one⟩
 ·split
  ·rename_i h1
   simp only [Bool.and_eq_true] at h1
   obtain ⟨l1, b1⟩ := ct 1 (by simpa using h1.1.2)
   obtain ⟨l2, b2⟩ := ct 2 (by simpa using h1.2)
   split
   ·refine ⟨by simp, by simp only; omega, fun j h2 h3 => ?_⟩
    simp only at h3
    by_cases hj : j = i
    ·subst hj; omega
    ·by_cases hj : j = i + 1
     ·subst hj; exact b1
     ·have : j = i + 2 := by omega
      subst this; exact b2
   ·exact ⟨by simp, by simp only; omega, one⟩
  ·split
   ·rename_i h1
    simp only [Bool.and_eq_true] at h1
    obtain ⟨l1, b1⟩ := ct 1 (by simpa using h1.1.1.2)
    obtain ⟨l2, b2⟩ := ct 2 (by simpa using h1.1.2)
    obtain ⟨l3, b3⟩ := ct 3 (by simpa using h1.2)
    split
    ·refine ⟨by simp, by simp only; omega, fun j h2 h3 => ?_⟩
     simp only at h3
     by_cases hj : j = i
     ·subst hj; omega
     ·by_cases hj : j = i + 1
      ·subst hj; exact b1
      ·by_cases hj : j = i + 2
       ·subst hj; exact b2
       ·have : j = i + 3 := by omega
        subst this; exact b3
    ·exact ⟨by simp, by simp only; omega, one⟩
   ·exact ⟨by simp, by simp only; omega, one⟩

def ctl (s : ByteArray) (i : Nat) : Bool := decide (byt s i < 32) || byt s i == 127

theorem wu {x : Int} : IntKind.u64.wrap x = x % 18446744073709551616 := by
 simp only [IntKind.wrap, IntKind.bits, IntKind.signed]
 simp

structure W4 (w : GWide) : Prop where
 a0 : 0 ≤ w.size.1
 a1 : w.size.1 < 18446744073709551616
 b0 : 0 ≤ w.size.2.1
 b1 : w.size.2.1 < 18446744073709551616
 c0 : 0 ≤ w.size.2.2.1
 c1 : w.size.2.2.1 < 18446744073709551616
 d0 : 0 ≤ w.size.2.2.2
 d1 : w.size.2.2.2 < 18446744073709551616

def val (w : GWide) : Int := w.size.1 + w.size.2.1 * 18446744073709551616 + w.size.2.2.1 * 340282366920938463463374607431768211456 + w.size.2.2.2 * 6277101735386680763835789423207666416102355444464034512896

theorem mask32 {x : Int} (h0 : 0 ≤ x) (h1 : x < 18446744073709551616) : ((BitVec.ofInt (IntKind.u64).bits x &&& BitVec.ofInt (IntKind.u64).bits (4294967295 : Int)).toNat : Int) = x % 4294967296 := by
 have e : (BitVec.ofInt 64 x).toNat = x.toNat := by
  rw [BitVec.toNat_ofInt]
  have : x % ((2 ^ 64 : Nat) : Int) = x := by omega
  rw [this]
 have hand : (BitVec.ofInt 64 x &&& BitVec.ofInt 64 (4294967295 : Int)).toNat = x.toNat % 4294967296 := by
  rw [BitVec.toNat_and, e]
  have : (BitVec.ofInt 64 (4294967295 : Int)).toNat = 2 ^ 32 - 1 := by decide
  rw [this, Nat.and_two_pow_sub_one_eq_mod]
 show ((BitVec.ofInt 64 x &&& BitVec.ofInt 64 (4294967295 : Int)).toNat : Int) = _
 rw [hand]
 omega

theorem sh32 (x : Int) : x.fdiv (2 ^ (min (32 : Int).toNat (IntKind.u64).bits)) = x / 4294967296 := by
 have : (2 : Int) ^ (min (32 : Int).toNat (IntKind.u64).bits) = 4294967296 := by decide
 rw [this, Int.fdiv_eq_ediv_of_nonneg _ (by decide)]

theorem m64 {x : Int} (h0 : 0 ≤ x) (h1 : x < 18446744073709551616) : x % 18446744073709551616 = x := Int.emod_eq_of_lt h0 h1

theorem prod_bound {a b : Int} (a0 : 0 ≤ a) (a1 : a < 4294967296) (b0 : 0 ≤ b) (b1 : b < 4294967296) : 0 ≤ a * b ∧ a * b ≤ 18446744065119617025 := by
 refine ⟨Int.mul_nonneg a0 b0, ?_⟩
 have h1 : a * b ≤ 4294967295 * b := Int.mul_le_mul_of_nonneg_right (by omega) b0
 omega

theorem word_step {x n c : Int} (h0 : 0 ≤ x) (h1 : x < 18446744073709551616) (n0 : 0 ≤ n) (n1 : n < 18446744073709551616) (c0 : 0 ≤ c) (c1 : c < 18446744073709551616) :
  (x * n / 18446744073709551616 + (x * n % 18446744073709551616 + c) / 18446744073709551616) % 18446744073709551616 = (x * n + c) / 18446744073709551616 ∧ (x * n % 18446744073709551616 + c) % 18446744073709551616 = (x * n + c) % 18446744073709551616 ∧ 0 ≤ (x * n + c) / 18446744073709551616 ∧ (x * n + c) / 18446744073709551616 < 18446744073709551616 := by
 have hp : 0 ≤ x * n := Int.mul_nonneg h0 n0
 have hq : x * n ≤ 18446744073709551615 * n := Int.mul_le_mul_of_nonneg_right (by omega) n0
 have hq2 : (18446744073709551615 : Int) * n ≤ 18446744073709551615 * 18446744073709551615 := Int.mul_le_mul_of_nonneg_left (by omega) (by decide)
 have hb : x * n ≤ 340282366920938463426481119284349108225 := by
  refine Int.le_trans hq (Int.le_trans hq2 (by decide))
 generalize x * n = p at *
 omega

def p10 : Nat → Int
 | 0 => 1
 | k + 1 => p10 k * 10

theorem p10_pos : ∀ k, 1 ≤ p10 k
 | 0 => by decide
 | k + 1 => by have := p10_pos k; simp only [p10]; omega

def c3 (a b : Int) : Int := if a < b then -1 else if b < a then 1 else 0

theorem bool_ne (n m : Bool) (h : ¬ n = m) : (!(n == m)) = true ∧ (!m) = n := by revert h; cases n <;> cases m <;> simp

def dval : List Int → Int
 | [] => 0
 | d :: l => d + 10 * dval l

def digs (l : List Int) : Prop := ∀ d ∈ l, 0 ≤ d ∧ d ≤ 9

def top (l : List Int) : Prop := ∀ d, l.getLast? = some d → d ≠ 0

theorem dval_nonneg : ∀ {l : List Int}, digs l → 0 ≤ dval l
 | [], _ => by simp [dval]
 | d :: l, h => by
  have h1 := h d (by simp)
  have h2 := dval_nonneg (l := l) (fun x hx => h x (by simp [hx]))
  simp only [dval]; omega

theorem p10n : ∀ n, 0 < p10 n := fun n => by have := p10_pos n; omega

theorem dval_lt : ∀ {l : List Int}, digs l → dval l < p10 l.length
 | [], _ => by simp [dval, p10]
 | d :: l, h => by
  have h1 := h d (by simp)
  have h2 := dval_lt (l := l) (fun x hx => h x (by simp [hx]))
  simp only [dval, List.length_cons, p10]; omega

theorem dval_ge : ∀ {l : List Int}, digs l → top l → l ≠ [] → p10 (l.length - 1) ≤ dval l
 | [], _, _, h => absurd rfl h
 | [d], h, ht, _ => by
  have h1 := h d (by simp)
  have h2 := ht d (by simp)
  simp [dval, p10]; omega
 | d :: e :: l, h, ht, _ => by
  have h1 := h d (by simp)
  have h2 := dval_ge (l := e :: l) (fun x hx => h x (by simp [hx])) (fun x hx => ht x (by simpa using hx)) (by simp)
  simp only [List.length_cons] at h2 ⊢
  rw [show l.length + 1 + 1 - 1 = (l.length + 1 - 1) + 1 by omega]
  simp only [p10]
  rw [dval]
  omega

theorem p10_mono {m n : Nat} (h : m ≤ n) : p10 m ≤ p10 n := by
 induction n with
 | zero =>
   have : m = 0 := by omega
   subst this; exact Int.le_refl _
 | succ n ih =>
  by_cases e : m = n + 1
  ·subst e; exact Int.le_refl _
  ·have h1 := ih (by omega)
   have h2 := p10n n
   simp only [p10]; omega

theorem dval_append : ∀ (l m : List Int), dval (l ++ m) = dval l + p10 l.length * dval m
 | [], m => by simp [dval, p10]
 | d :: l, m => by
  simp only [List.cons_append, dval, dval_append l m, List.length_cons, p10]
  rw [Int.mul_add, ← Int.mul_assoc, Int.mul_comm 10 (p10 l.length)]; omega

theorem dval_zeros (k : Nat) : dval (List.replicate k 0) = 0 := by
 induction k with
 | zero => rfl
 | succ k ih => simp [List.replicate_succ, dval, ih]

end Go.SX.Cal
namespace Go.Proofs.YtmaemlebpjnmoaaGreatDoor
open Go Go.SX Go.SX.Cal Go.Lib
set_option linter.unusedVariables false
set_option linter.unusedSimpArgs false

theorem vtext_loop (s : ByteArray) : ∀ k i, i ≤ s.size → s.size - i < k → value_text_l1 s k i = some (first (ctl s) i s.size).isNone := by
 intro k
 induction k with
 | zero => intro i _ h; omega
 | succ k ih =>
  intro i hi hk
  rw [value_text_l1]
  by_cases h : i = s.size
  ·subst h
   rw [first_end]
   simp only [Nat.lt_irrefl, decide_false, ift_false, value_text_j3]
   rfl
  ·have hlt : i < s.size := by omega
   simp only [hlt, decide_true, ift_true, value_text_j2, ift_ite]
   by_cases hb : byt s i < 128
   ·rw [decode_lo s i hlt hb, first_step hlt]
    by_cases h1 : byt s i < 32
    ·have : ctl s i = true := by simp [ctl, h1]
     simp [this, show ((byt s i : Nat) : Int) < 32 by omega]
    ·have e1 : ¬ ((byt s i : Nat) : Int) < 32 := by omega
     by_cases h2 : byt s i = 127
     ·have : ctl s i = true := by simp [ctl, h2]
      simp [this, h2]
     ·have : ctl s i = false := by simp [ctl, h1, h2]
      have e2 : ¬ ((byt s i : Nat) : Int) = 127 := by omega
      simp only [this, Int.ofNat_eq_natCast, e1, decide_false, Bool.false_eq_true, if_false, beq_iff_eq, e2]
      exact ih (i + 1) (by omega) (by omega)
   ·have h1 := decode_hi s i hlt hb
    obtain ⟨h2, h3, h4⟩ := decode_skip s i hlt hb
    have e1 : ¬ (((Utf8.decode s i).1 : Nat) : Int) < 32 := by omega
    have e2 : ¬ (((Utf8.decode s i).1 : Nat) : Int) = 127 := by omega
    simp only [Int.ofNat_eq_natCast, e1, decide_false, Bool.false_eq_true, if_false, beq_iff_eq, e2]
    rw [ih _ h3 (by omega), first_skip _ i h3 (fun j a b => by
     have := h4 j a b
     simp only [ctl, Bool.or_eq_false_iff, decide_eq_false_iff_not, beq_eq_false_iff_ne]
     omega)]
    simp

theorem rchar_loop (s : ByteArray) (hs : s.size < 1000000000) : ∀ k i, i ≤ s.size → s.size - i < k → ref1_characters_l1 s k (i : Int) = some (first (ctl s) i s.size).isNone := by
 intro k
 induction k with
 | zero => intro i _ h; omega
 | succ k ih =>
  intro i hi hk
  rw [ref1_characters_l1]
  by_cases h : i = s.size
  ·subst h
   rw [first_end]
   simp only [Int.lt_irrefl, decide_false, ift_false, ref1_characters_j3]
   rfl
  ·have hlt : i < s.size := by omega
   have g : (0 : Int) ≤ (i : Int) ∧ (i : Int) < (s.size : Int) := ⟨by omega, by omega⟩
   have e : ((s.data.toList.getD (i : Int).toNat 0).toNat : Int) = (byt s i : Int) := by simp [byt]
   simp only [dec_lt hlt, ift_true, grd, if_pos g, bnd_some', ref1_characters_j2, ift_ite, e]
   rw [first_step hlt, wrap_succ hlt hs]
   by_cases h1 : byt s i < 32
   ·have : ctl s i = true := by simp [ctl, h1]
    simp [this, show ((byt s i : Nat) : Int) < 32 by omega]
   ·have e1 : ¬ ((byt s i : Nat) : Int) < 32 := by omega
    by_cases h2 : byt s i = 127
    ·have : ctl s i = true := by simp [ctl, h2]
     simp [this, h2]
    ·have : ctl s i = false := by simp [ctl, h1, h2]
     have e2 : ¬ ((byt s i : Nat) : Int) = 127 := by omega
     simp only [this, e1, decide_false, Bool.false_eq_true, if_false, beq_iff_eq, e2]
     exact ih (i + 1) (by omega) (by omega)

def textOk (s : ByteArray) : Bool := decide (s.size ≤ 256) && (validD s.data.toList && (first (ctl s) 0 s.size).isNone)

theorem validS (s : ByteArray) (hs : s.size < 1000000000) : utf8_ValidString s = some (validD s.data.toList) := by
 unfold utf8_ValidString grd
 rw [if_pos (by omega)]

theorem vText (s : ByteArray) (hs : s.size < 1000000000) : value_text s = some (textOk s) := by
 unfold value_text value_text_j1 textOk
 rw [validS s hs, vtext_loop s BIG 0 (by omega) (by rw [big_val]; omega)]
 by_cases h : s.size ≤ 256
 ·have : ¬ (256 : Int) < (s.size : Int) := by omega
  simp only [this, h, decide_false, decide_true, ift_false, bnd_some']
  cases validD s.data.toList <;> rfl
 ·have : (256 : Int) < (s.size : Int) := by omega
  simp only [this, h, decide_false, decide_true, ift_true]
  rfl

theorem rChars (s : ByteArray) (hs : s.size < 1000000000) : ref1_characters s = some (textOk s) := by
 have := rchar_loop s hs BIG 0 (by omega) (by rw [big_val]; omega)
 unfold ref1_characters ref1_characters_j1 textOk
 rw [validS s hs, show (0 : Int) = ((0 : Nat) : Int) from rfl, this]
 by_cases h : s.size ≤ 256
 ·have e : ¬ (256 : Int) < (s.size : Int) := by omega
  simp only [e, h, decide_false, decide_true, bnd_some']
  cases validD s.data.toList <;> rfl
 ·have e : (256 : Int) < (s.size : Int) := by omega
  simp only [e, h, decide_false, decide_true, bnd_some']
  cases validD s.data.toList <;> rfl

theorem vWithin (a b c : Int) : value_within a b c = some (decide (b ≤ a) && decide (a ≤ c)) := by
 unfold value_within value_within_j1; exact ift_and _ _
theorem rWithin (a b c : Int) : ref1_within a b c = some (decide (b ≤ a) && decide (a ≤ c)) := by
 unfold ref1_within ref1_within_j1; exact ift_and _ _

def plainOk (v : GValue) : Bool :=
 let bare := v.n == 0 && v.scale == 0
 let noS := decide (v.s.size = 0)
 let noI := ((v.items.length : Int) == 0)
 if v.kind = 0 then bare && (noS && noI)
 else if v.kind = 1 then (decide (0 ≤ v.n) && decide (v.n ≤ 1)) && (v.scale == 0 && (noS && noI))
 else if v.kind = 2 then (decide (-999999999999999999 ≤ v.n) && decide (v.n ≤ 999999999999999999)) && (v.scale == 0 && (noS && noI))
 else if v.kind = 3 then (decide (-999999999999999999 ≤ v.n) && decide (v.n ≤ 999999999999999999)) && ((decide (0 ≤ v.scale) && decide (v.scale ≤ 12)) && (noS && noI))
 else if v.kind = 4 then bare && (textOk v.s && noI)
 else if v.kind = 5 then (decide (-62135596800 ≤ v.n) && decide (v.n ≤ 253402300799)) && (v.scale == 0 && (noS && noI))
 else if v.kind = 6 then bare && (noS && decide ((v.items.length : Int) ≤ 64))
 else if v.kind = 7 then bare && (noS && decide ((0 : Int) < (v.items.length : Int)))
 else false

theorem vPlain (v : GValue) (hs : v.s.size < 1000000000) : value_plain v = some (plainOk v) := by
 have j : ∀ x, value_plain_j1 v x = some (if v.kind = 0 then x && (decide (v.s.size = 0) && ((v.items.length : Int) == 0))
   else if v.kind = 1 then (decide (0 ≤ v.n) && decide (v.n ≤ 1)) && (v.scale == 0 && (decide (v.s.size = 0) && ((v.items.length : Int) == 0)))
   else if v.kind = 2 then (decide (-999999999999999999 ≤ v.n) && decide (v.n ≤ 999999999999999999)) && (v.scale == 0 && (decide (v.s.size = 0) && ((v.items.length : Int) == 0)))
   else if v.kind = 3 then (decide (-999999999999999999 ≤ v.n) && decide (v.n ≤ 999999999999999999)) && ((decide (0 ≤ v.scale) && decide (v.scale ≤ 12)) && (decide (v.s.size = 0) && ((v.items.length : Int) == 0)))
   else if v.kind = 4 then x && (textOk v.s && ((v.items.length : Int) == 0))
   else if v.kind = 5 then (decide (-62135596800 ≤ v.n) && decide (v.n ≤ 253402300799)) && (v.scale == 0 && (decide (v.s.size = 0) && ((v.items.length : Int) == 0)))
   else if v.kind = 6 then x && (decide (v.s.size = 0) && decide ((v.items.length : Int) ≤ 64))
   else if v.kind = 7 then x && (decide (v.s.size = 0) && decide ((0 : Int) < (v.items.length : Int)))
   else false) := by
  intro x
  unfold value_plain_j1 value_plain_j2 value_plain_j3 value_plain_j4 value_plain_j5 value_plain_j6 value_plain_j7 value_plain_j8 value_plain_j9
  simp only [vWithin, vText v.s hs, bnd_some', ift_and, size_zero]
  simp only [ift_ite, beq_iff_eq]
  repeat' split
  all_goals (first | rfl | simp_all)
 unfold value_plain
 rw [j, j]
 unfold plainOk
 cases v.n == 0
 ·simp only [ift_false, Bool.false_and]
 ·simp only [ift_true, Bool.true_and]

theorem rAlone (v : GValue) (hs : v.s.size < 1000000000) : ref1_alone v = some (plainOk v) := by
 have j : ∀ x, ref1_alone_j1 v x = some (if v.kind = 0 then x && (v.n == 0 && v.scale == 0)
   else if v.kind = 1 then x && ((decide (0 ≤ v.n) && decide (v.n ≤ 1)) && v.scale == 0)
   else if v.kind = 2 then x && ((decide (-999999999999999999 ≤ v.n) && decide (v.n ≤ 999999999999999999)) && v.scale == 0)
   else if v.kind = 3 then x && ((decide (-999999999999999999 ≤ v.n) && decide (v.n ≤ 999999999999999999)) && (decide (0 ≤ v.scale) && decide (v.scale ≤ 12)))
   else if v.kind = 4 then ((v.items.length : Int) == 0) && (v.n == 0 && (v.scale == 0 && textOk v.s))
   else if v.kind = 5 then x && ((decide (-62135596800 ≤ v.n) && decide (v.n ≤ 253402300799)) && v.scale == 0)
   else if v.kind = 6 then decide (v.s.size = 0) && (v.n == 0 && (v.scale == 0 && decide ((v.items.length : Int) ≤ 64)))
   else if v.kind = 7 then decide (v.s.size = 0) && (v.n == 0 && (v.scale == 0 && decide ((0 : Int) < (v.items.length : Int))))
   else false) := by
  intro x
  unfold ref1_alone_j1 ref1_alone_j2 ref1_alone_j3 ref1_alone_j4 ref1_alone_j5 ref1_alone_j6 ref1_alone_j7 ref1_alone_j8 ref1_alone_j9
  simp only [rWithin, rChars v.s hs, bnd_some', ift_and, size_zero]
  simp only [ift_ite, beq_iff_eq]
  repeat' split
  all_goals (first | rfl | simp_all)
 unfold ref1_alone
 rw [j, j, size_zero]
 unfold plainOk
 generalize decide (v.s.size = 0) = a
 generalize ((v.items.length : Int) == 0) = b
 generalize textOk v.s = t
 generalize (v.n == 0) = c
 generalize (v.scale == 0) = d
 generalize (decide (0 ≤ v.n) && decide (v.n ≤ 1)) = e1
 generalize (decide (-999999999999999999 ≤ v.n) && decide (v.n ≤ 999999999999999999)) = e2
 generalize (decide (0 ≤ v.scale) && decide (v.scale ≤ 12)) = e3
 generalize (decide (-62135596800 ≤ v.n) && decide (v.n ≤ 253402300799)) = e4
 generalize decide ((v.items.length : Int) ≤ 64) = e5
 generalize decide ((0 : Int) < (v.items.length : Int)) = e6
 cases a <;> simp only [ift_false, ift_true] <;> congr 1 <;> repeat' split
 all_goals (first | rfl | (cases b <;> cases c <;> cases d <;> simp <;> done) | (simp [Bool.and_comm, Bool.and_assoc, Bool.and_left_comm]))

def soundL (f : GValue → Int → Bool × Int) : List GValue → Int → Bool × Int
 | [], z => (true, z)
 | v :: l, z => if (f v z).1 = true then soundL f l (f v z).2 else (false, (f v z).2)

def cnt (v : GValue) (z : Int) : Int := if v.kind = 0 then z else z + 1

def soundD : Nat → GValue → Int → Bool × Int
 | 0, v, z => (false, cnt v z)
 | d + 1, v, z => if 256 < cnt v z ∨ plainOk v = false then (false, cnt v z) else soundL (soundD d) v.items (cnt v z)

def soundB (v : GValue) : Bool := (soundD 4 v 0).1

theorem soundL_le {f : GValue → Int → Bool × Int} : ∀ {l : List GValue} {z : Int}, (∀ v ∈ l, ∀ z, 0 ≤ z → z ≤ 256 → 0 ≤ (f v z).2 ∧ (f v z).2 ≤ 257 ∧ ((f v z).1 = true → (f v z).2 ≤ 256)) → 0 ≤ z → z ≤ 256 →
  0 ≤ (soundL f l z).2 ∧ (soundL f l z).2 ≤ 257 ∧ ((soundL f l z).1 = true → (soundL f l z).2 ≤ 256)
 | [], z, _, h0, h1 => by simp only [soundL]; omega
 | v :: l, z, hf, h0, h1 => by
  obtain ⟨a, b, c⟩ := hf v (by simp) z h0 h1
  simp only [soundL]
  split
  ·rename_i h
   exact soundL_le (fun x hx => hf x (by simp [hx])) a (c h)
  ·exact ⟨a, b, fun h => by cases h⟩

theorem soundD_le : ∀ (d : Nat) (v : GValue) (z : Int), 0 ≤ z → z ≤ 256 → 0 ≤ (soundD d v z).2 ∧ (soundD d v z).2 ≤ 257 ∧ ((soundD d v z).1 = true → (soundD d v z).2 ≤ 256)
 | 0, v, z, h0, h1 => by
  have hc : z ≤ cnt v z ∧ cnt v z ≤ z + 1 := by unfold cnt; split <;> omega
  simp only [soundD]
  exact ⟨by omega, by omega, fun h => by cases h⟩
 | d + 1, v, z, h0, h1 => by
  have hc : z ≤ cnt v z ∧ cnt v z ≤ z + 1 := by unfold cnt; split <;> omega
  simp only [soundD]
  split
  ·exact ⟨by omega, by omega, fun h => by cases h⟩
  ·rename_i h
   have : ¬ 256 < cnt v z := fun e => h (.inl e)
   exact soundL_le (fun x _ => soundD_le d x) (by omega) (by omega)

theorem cnt_wrap (v : GValue) (z : Int) (h0 : 0 ≤ z) (h1 : z ≤ 256) {β : Type} (f : Int → Option β) : ift (v.kind != (0 : Int)) (f (IntKind.i64.wrap (z + 1))) (f z) = f (cnt v z) := by
 rw [w64 (by omega) (by omega)]
 unfold cnt
 by_cases h : v.kind = 0
 ·simp [h, ift_ite]
 ·simp [h, ift_ite]

theorem vsound_loop {d : Nat} (l : Int) (q : GValue → Int → Int → Option (Bool × Int)) (xs : List GValue) (hl : xs.length < 1000000000)
  (hq : ∀ v ∈ xs, ∀ z, 0 ≤ z → z ≤ 256 → q v l z = some (!(soundD d v z).1, (soundD d v z).2)) : ∀ (k i : Nat) (z : Int), i ≤ xs.length → xs.length - i < k → 0 ≤ z → z ≤ 256 →
  ∃ r : Int, slices_IndexFunc_api_Value_api_Value_of_value_sound_1_l1 q xs l k z (i : Int) = some (r, (soundL (soundD d) (xs.drop i) z).2) ∧ decide (0 ≤ r) = !(soundL (soundD d) (xs.drop i) z).1 := by
 intro k
 induction k with
 | zero => intro i z _ h; omega
 | succ k ih =>
  intro i z hi hk h0 h1
  rw [slices_IndexFunc_api_Value_api_Value_of_value_sound_1_l1]
  by_cases h : i = xs.length
  ·subst h
   simp only [Int.lt_irrefl, decide_false, ift_false, List.drop_length, soundL, slices_IndexFunc_api_Value_api_Value_of_value_sound_1_j1]
   exact ⟨-1, rfl, rfl⟩
  ·have hlt : i < xs.length := by omega
   have hm : xs[i] ∈ xs := List.getElem_mem hlt
   simp only [dec_lt hlt, ift_true, at_nat hlt, bnd_some', hq _ hm z h0 h1]
   rw [List.drop_eq_getElem_cons hlt]
   simp only [soundL]
   obtain ⟨a, b, c⟩ := soundD_le d xs[i] z h0 h1
   cases hs : (soundD d xs[i] z).1 with
   | false =>
    simp only [Bool.not_false, ift_true, Bool.false_eq_true, if_false]
    exact ⟨_, rfl, by simp⟩
   | true =>
    simp only [Bool.not_true, ift_false, if_true]
    rw [wrap_succ hlt hl]
    exact ih (i + 1) _ (by omega) (by omega) a (c hs)

theorem vsound_eq : ∀ (d k : Nat) (v : GValue) (z : Int), d ≤ 4 → 4 * d + 4 ≤ k → sizeV v < 1000000000 → 0 ≤ z → z ≤ 256 → value_sound k v (5 - d : Int) z = some (soundD d v z) := by
 intro d
 induction d with
 | zero =>
  intro k v z _ hk hs h0 h1
  obtain ⟨k, rfl⟩ : ∃ q, k = q + 1 := ⟨k - 1, by omega⟩
  rw [value_sound, cnt_wrap v z h0 h1]
  unfold value_sound_j1 value_sound_j2
  simp [soundD, ift_true]
 | succ d ih =>
  intro k v z hd hk hs h0 h1
  obtain ⟨k, rfl⟩ : ∃ q, k = q + 4 := ⟨k - 4, by omega⟩
  have hsz := sizeV_eq v
  have hlen := sizeL_len v.items
  rw [value_sound, cnt_wrap v z h0 h1]
  unfold value_sound_j1 value_sound_j2
  rw [vPlain v (by omega)]
  have e4 : ¬ (4 : Int) < 5 - ((d + 1 : Nat) : Int) := by omega
  have hc : z ≤ cnt v z ∧ cnt v z ≤ z + 1 := by unfold cnt; split <;> omega
  simp only [e4, decide_false, ift_false, soundD, bnd_some']
  by_cases h2 : (256 : Int) < cnt v z
  ·simp [h2, ift_true]
  ·cases hp : plainOk v with
   | false => simp [h2, ift_true, ift_false]
   | true =>
    simp only [h2, decide_false, ift_false, Bool.not_true, false_or, Bool.true_eq_false, if_false]
    have := vsound_loop (d := d) (5 - ((d + 1 : Nat) : Int)) (value_sound_1_s (k + 1)) v.items (by omega) (by
     intro x hx z h0 h1
     have := sizeL_mem hx
     rw [value_sound_1_s, w64 (by omega) (by omega), show (5 - ((d + 1 : Nat) : Int) + 1) = 5 - (d : Int) by omega, ih k x z (by omega) (by omega) (by omega) h0 h1]
     rfl) BIG 0 (cnt v z) (by omega) (by rw [big_val]; omega) (by omega) (by omega)
    obtain ⟨r, e1, e2⟩ := this
    rw [show ((0 : Nat) : Int) = (0 : Int) from rfl] at e1
    rw [slices_ContainsFunc_api_Value_api_Value_of_value_sound_1, slices_IndexFunc_api_Value_api_Value_of_value_sound_1, e1]
    simp only [bnd_some', e2, List.drop_zero, Bool.not_not]

theorem vSound (v : GValue) (hs : sizeV v < 1000000000) : value_Sound v = some (soundB v) := by
 unfold value_Sound soundB
 have := vsound_eq 4 BIG v 0 (by omega) (by rw [big_val]; omega) hs (by omega) (by omega)
 rw [show (5 - ((4 : Nat) : Int)) = (1 : Int) from rfl] at this
 rw [this]; rfl

theorem rsound_loop {d : Nat} (l : Int) (hl0 : 0 ≤ l) (hl1 : l ≤ 100) (q : GValue → Int → Int → Option (Bool × Int)) (v : GValue) (hl : v.items.length < 1000000000)
  (hq : ∀ x ∈ v.items, ∀ z, 0 ≤ z → z ≤ 256 → q x (l + 1) z = some (soundD d x z)) : ∀ (k i : Nat) (z : Int), i ≤ v.items.length → v.items.length - i < k → 0 ≤ z → z ≤ 256 →
  ref1_sound_l1 q v l k z (i : Int) = some (soundL (soundD d) (v.items.drop i) z) := by
 intro k
 induction k with
 | zero => intro i z _ h; omega
 | succ k ih =>
  intro i z hi hk h0 h1
  rw [ref1_sound_l1]
  by_cases h : i = v.items.length
  ·subst h
   simp only [Int.lt_irrefl, decide_false, ift_false, List.drop_length, soundL, ref1_sound_j3]
  ·have hlt : i < v.items.length := by omega
   have hm : v.items[i] ∈ v.items := List.getElem_mem hlt
   rw [w64 (x := l + 1) (by omega) (by omega)]
   simp only [dec_lt hlt, ift_true, at_nat hlt, bnd_some', hq _ hm z h0 h1]
   rw [List.drop_eq_getElem_cons hlt]
   simp only [soundL]
   obtain ⟨a, b, c⟩ := soundD_le d v.items[i] z h0 h1
   cases hs : (soundD d v.items[i] z).1 with
   | false => simp only [Bool.not_false, ift_true, Bool.false_eq_true, if_false]
   | true =>
    simp only [Bool.not_true, ift_false, if_true]
    rw [wrap_succ hlt hl]
    exact ih (i + 1) _ (by omega) (by omega) a (c hs)

theorem rsound_eq : ∀ (d k : Nat) (v : GValue) (z : Int), d ≤ 4 → d + 1 ≤ k → sizeV v < 1000000000 → 0 ≤ z → z ≤ 256 → ref1_sound k v (5 - d : Int) z = some (soundD d v z) := by
 intro d
 induction d with
 | zero =>
  intro k v z _ hk hs h0 h1
  obtain ⟨k, rfl⟩ : ∃ q, k = q + 1 := ⟨k - 1, by omega⟩
  rw [ref1_sound, cnt_wrap v z h0 h1]
  unfold ref1_sound_j1 ref1_sound_j2
  simp [soundD, ift_true]
 | succ d ih =>
  intro k v z hd hk hs h0 h1
  obtain ⟨k, rfl⟩ : ∃ q, k = q + 1 := ⟨k - 1, by omega⟩
  have hsz := sizeV_eq v
  have hlen := sizeL_len v.items
  rw [ref1_sound, cnt_wrap v z h0 h1]
  unfold ref1_sound_j1 ref1_sound_j2
  rw [rAlone v (by omega)]
  have e4 : ¬ (4 : Int) < 5 - ((d + 1 : Nat) : Int) := by omega
  have hc : z ≤ cnt v z ∧ cnt v z ≤ z + 1 := by unfold cnt; split <;> omega
  simp only [e4, decide_false, ift_false, soundD, bnd_some']
  by_cases h2 : (256 : Int) < cnt v z
  ·simp [h2, ift_true]
  ·cases hp : plainOk v with
   | false => simp [h2, ift_true, ift_false]
   | true =>
    simp only [h2, decide_false, ift_false, Bool.not_true, false_or, Bool.true_eq_false, if_false]
    have := rsound_loop (d := d) (5 - ((d + 1 : Nat) : Int)) (by omega) (by omega) (ref1_sound k) v (by omega) (by
     intro x hx z h0 h1
     have := sizeL_mem hx
     rw [show (5 - ((d + 1 : Nat) : Int) + 1) = 5 - (d : Int) by omega]
     exact ih k x z (by omega) (by omega) (by omega) h0 h1) BIG 0 (cnt v z) (by omega) (by rw [big_val]; omega) (by omega) (by omega)
    rw [show ((0 : Nat) : Int) = (0 : Int) from rfl, List.drop_zero] at this
    exact this

theorem rSound (v : GValue) (hs : sizeV v < 1000000000) : ref1_Sound v = some (soundB v) := by
 unfold ref1_Sound soundB
 have := rsound_eq 4 BIG v 0 (by omega) (by rw [big_val]; omega) hs (by omega) (by omega)
 rw [show (5 - ((4 : Nat) : Int)) = (1 : Int) from rfl] at this
 rw [this]; rfl

end Go.Proofs.YtmaemlebpjnmoaaGreatDoor
namespace Go.Proofs.YtmaemlebpjnmoaaGreatDoor
open Go Go.SX Go.SX.Cal
set_option linter.unusedVariables false

theorem sizeL_sum : ∀ l : List GValue, sizeL l = (l.map sizeV).sum
 | [] => by simp [sizeL]
 | x :: l => by simp [sizeL, sizeL_sum l]

theorem sz_mk (k n sc : Int) (s : ByteArray) (it : List GValue) : sizeV ⟨k, n, sc, s, it⟩ ≤ s.size + (it.map sizeV).sum + 6 := by
 simp only [sizeV, sizeL_sum]; omega

theorem sizeF_sum : ∀ l : List GField, sizeF l = (l.map sizeFd).sum
 | [] => by simp [sizeF]
 | x :: l => by simp [sizeF, sizeF_sum l]

theorem szT_mk (k s : Int) (fs : List GField) : sizeT ⟨k, s, fs⟩ ≤ (fs.map sizeFd).sum + 4 := by
 rw [sizeT_eq, sizeF_sum]; simp only; omega

theorem szF_mk (i : Int) (n : ByteArray) (q : Bool) (t : GType) : sizeFd ⟨i, n, q, t⟩ ≤ n.size + sizeT t + 4 := by
 rw [sizeFd_eq]; simp only; omega

theorem arg_value {w : World} {v : Value} {x : GValue} (h : AVRel ⟨fun _ => none, fun _ => False⟩ w [] v (.ag ((GValue.cells x).map .pv))) : AVRel ⟨fun _ => none, fun _ => False⟩ w [] v (.ag [ci x.kind, ci x.n, ci x.scale, cst x.s, cl eValue x.items]) := by
 cases x; exact h

end Go.Proofs.YtmaemlebpjnmoaaGreatDoor
namespace Go.Proofs.YtmaemlebpjnmoaaGreatDoor
open Go Go.SX Go.SX.Cal Go.Lib
set_option linter.unusedVariables false
set_option linter.unusedSimpArgs false

theorem c3_self (a : Int) : c3 a a = 0 := by unfold c3; rw [if_neg (by omega), if_neg (by omega)]

theorem most_loop {a b : List Int} (ha : digs a) (hb : digs b) (hl : a.length = b.length) (hbig : a.length < 1000000) : ∀ (k i : Nat), i ≤ a.length → i < k → dval (a.drop i) = dval (b.drop i) →
  ∃ r, ref1_most_l1 a b k ((i : Int) - 1) = some r ∧ -9 ≤ r ∧ r ≤ 9 ∧ c3 r 0 = c3 (dval a) (dval b) := by
 intro k
 induction k with
 | zero => intro i h1 h2; omega
 | succ k ih =>
  intro i h1 h2 he
  rw [ref1_most_l1]
  cases i with
  | zero =>
   rw [show decide ((0 : Int) ≤ ((0 : Nat) : Int) - 1) = false from rfl, ift_false]
   simp only [List.drop_zero] at he
   exact ⟨0, rfl, by omega, by omega, by rw [he, c3_self, c3_self]⟩
  | succ i =>
   have hia : i < a.length := by omega
   have hib : i < b.length := by omega
   have e1 : ((i + 1 : Nat) : Int) - 1 = (i : Int) := by omega
   have aa : at? a (i : Int) = some a[i] := by unfold at?; simp [hia]
   have bb : at? b (i : Int) = some b[i] := by unfold at?; simp [hib]
   rw [e1, show decide ((0 : Int) ≤ (i : Int)) = true by simp, ift_true, aa, bb]
   simp only [bnd_eq]
   have da : a.drop i = a[i] :: a.drop (i + 1) := List.drop_eq_getElem_cons hia
   have db : b.drop i = b[i] :: b.drop (i + 1) := List.drop_eq_getElem_cons hib
   have ra := ha a[i] (List.getElem_mem hia)
   have rb := hb b[i] (List.getElem_mem hib)
   by_cases hne : a[i] = b[i]
   ·rw [show (a[i] != b[i]) = false by simp [hne], ift_false, w64 (by omega) (by omega)]
    refine ih i (by omega) (by omega) ?_
    rw [da, db]; simp only [dval]; omega
   ·rw [show (a[i] != b[i]) = true by simp [hne], ift_true, w64 (by omega) (by omega)]
    refine ⟨_, rfl, by omega, by omega, ?_⟩
    have va : dval a = dval (a.take i) + p10 i * dval (a.drop i) := by
     have := dval_append (a.take i) (a.drop i)
     rw [List.take_append_drop, List.length_take, Nat.min_eq_left (by omega)] at this
     exact this
    have vb : dval b = dval (b.take i) + p10 i * dval (b.drop i) := by
     have := dval_append (b.take i) (b.drop i)
     rw [List.take_append_drop, List.length_take, Nat.min_eq_left (by omega)] at this
     exact this
    have la := dval_lt (l := a.take i) (fun x hx => ha x (List.mem_of_mem_take hx))
    have lb := dval_lt (l := b.take i) (fun x hx => hb x (List.mem_of_mem_take hx))
    have na := dval_nonneg (l := a.take i) (fun x hx => ha x (List.mem_of_mem_take hx))
    have nb := dval_nonneg (l := b.take i) (fun x hx => hb x (List.mem_of_mem_take hx))
    rw [List.length_take, Nat.min_eq_left (by omega)] at la lb
    rw [da] at va; rw [db] at vb
    simp only [dval] at va vb
    have hp := p10n i
    have key : p10 i * (a[i] + 10 * dval (a.drop (i + 1))) - p10 i * (b[i] + 10 * dval (b.drop (i + 1))) = p10 i * (a[i] - b[i]) := by
     rw [← Int.mul_sub, he]; congr 1; omega
    unfold c3
    rcases Int.lt_or_gt_of_ne hne with hlt | hgt
    ·have : p10 i * (a[i] - b[i]) ≤ p10 i * (-1) := Int.mul_le_mul_of_nonneg_left (by omega) (by omega)
     rw [if_pos (by omega), if_pos (by omega)]
    ·have : p10 i * 1 ≤ p10 i * (a[i] - b[i]) := Int.mul_le_mul_of_nonneg_left (by omega) (by omega)
     rw [if_neg (by omega), if_pos (by omega), if_neg (by omega), if_pos (by omega)]

theorem most_eq {a b : List Int} (ha : digs a) (hb : digs b) (ta : top a) (tb : top b) (la : a.length < 1000) (lb : b.length < 1000) : ∃ r, ref1_most a b = some r ∧ -1000 ≤ r ∧ r ≤ 1000 ∧ c3 r 0 = c3 (dval a) (dval b) := by
 unfold ref1_most
 by_cases hl : a.length = b.length
 ·rw [show ((a.length : Int) != (b.length : Int)) = false by simp [hl], ift_false, w64 (by omega) (by omega)]
  obtain ⟨r, h1, h2, h3, h4⟩ := most_loop ha hb hl (by omega) BIG a.length (Nat.le_refl _) (by rw [big_val]; omega) (by rw [List.drop_length, hl, List.drop_length])
  exact ⟨r, h1, by omega, by omega, h4⟩
 ·have hne : ((a.length : Int) != (b.length : Int)) = true := by simp; omega
  rw [hne, ift_true, w64 (by omega) (by omega)]
  refine ⟨_, rfl, by omega, by omega, ?_⟩
  have l1 := dval_lt ha
  have l2 := dval_lt hb
  rcases Nat.lt_or_gt_of_ne hl with h | h
  ·have g := dval_ge hb tb (by rintro rfl; simp at h)
   have := p10_mono (show a.length ≤ b.length - 1 by omega)
   unfold c3; rw [if_pos (by omega), if_pos (by omega)]
  ·have g := dval_ge ha ta (by rintro rfl; simp at h)
   have := p10_mono (show b.length ≤ a.length - 1 by omega)
   unfold c3; rw [if_neg (by omega), if_pos (by omega), if_neg (by omega), if_pos (by omega)]

theorem digs_nil : digs [] := fun _ h => by cases h
theorem top_nil : top [] := fun _ h => by cases h
theorem digs_snoc {l : List Int} {x : Int} (h : digs l) (h0 : 0 ≤ x) (h1 : x ≤ 9) : digs (l ++ [x]) := by
 intro d hd
 rcases List.mem_append.1 hd with hd | hd
 ·exact h d hd
 ·simp at hd; subst hd; exact ⟨h0, h1⟩
theorem digs_of_snoc {l : List Int} {x : Int} (h : digs (l ++ [x])) : digs l ∧ 0 ≤ x ∧ x ≤ 9 :=
 ⟨fun d hd => h d (List.mem_append.2 (.inl hd)), h x (by simp)⟩
theorem top_snoc {l : List Int} {x : Int} (h : x ≠ 0) : top (l ++ [x]) := by
 intro d hd
 simp at hd
 subst hd; exact h
theorem digs_cons {l : List Int} {x : Int} (h : digs l) (h0 : 0 ≤ x) (h1 : x ≤ 9) : digs (x :: l) := by
 intro d hd
 rcases List.mem_cons.1 hd with rfl | hd
 ·exact ⟨h0, h1⟩
 ·exact h d hd

theorem cut_loop (b : Bool) : ∀ (k : Nat) (d : List Int), d.length < k → d.length < 1000000 → digs d →
  ∃ d', ref1_cut_l1 b k d = some ⟨b && decide (0 < d'.length), d'⟩ ∧ digs d' ∧ top d' ∧ dval d' = dval d ∧ d'.length ≤ d.length := by
 intro k
 induction k with
 | zero => intro d h; omega
 | succ k ih =>
  intro d hk hl hd
  rw [ref1_cut_l1]
  have fin : ∀ x : List Int, ref1_cut_j1 (ref1_cut_l1 b k) b x false = some ⟨b && decide (0 < x.length), x⟩ := by
   intro x
   unfold ref1_cut_j1 ref1_cut_j2 ref1_cut_j3
   cases b <;> simp [ift_ite]
  rcases List.eq_nil_or_concat d with rfl | ⟨l, x, rfl⟩
  ·rw [show decide ((0 : Int) < (([] : List Int).length : Int)) = false from rfl, ift_false, fin]
   exact ⟨[], rfl, digs_nil, top_nil, rfl, Nat.le_refl _⟩
  ·rw [List.concat_eq_append] at *
   have hlen : (l ++ [x]).length = l.length + 1 := by simp
   have e1 : IntKind.i64.wrap (((l ++ [x]).length : Int) - 1) = (l.length : Int) := by rw [hlen, w64 (by omega) (by omega)]; omega
   have e2 : at? (l ++ [x]) (l.length : Int) = some x := by unfold at?; simp
   obtain ⟨dl, x0, x9⟩ := digs_of_snoc hd
   rw [show decide ((0 : Int) < ((l ++ [x]).length : Int)) = true by simp, ift_true, e1, e2, bnd_some']
   by_cases hx : x = 0
   ·subst hx
    rw [show ((0 : Int) == 0) = true from rfl]
    unfold ref1_cut_j1
    rw [ift_true, e1]
    unfold grd
    rw [if_pos (by omega)]
    have e3 : ((l ++ [(0 : Int)]).drop (0 : Int).toNat).take ((l.length : Int).toNat - (0 : Int).toNat) = l := by simp
    rw [e3]
    obtain ⟨d', h1, h2, h3, h4, h5⟩ := ih l (by omega) (by omega) dl
    refine ⟨d', h1, h2, h3, ?_, by omega⟩
    rw [h4, dval_append]; simp [dval]
   ·rw [show (x == 0) = false by simp [hx], fin]
    exact ⟨_, rfl, hd, top_snoc hx, rfl, Nat.le_refl _⟩

theorem cut_eq (b : Bool) (d : List Int) (hl : d.length < 1000000) (hd : digs d) :
  ∃ d', ref1_cut b d = some ⟨b && decide (0 < d'.length), d'⟩ ∧ digs d' ∧ top d' ∧ dval d' = dval d ∧ d'.length ≤ d.length := by
 unfold ref1_cut
 exact cut_loop b BIG d (by rw [big_val]; omega) hl hd

def dig (a : List Int) (i : Nat) : Int := a.getD i 0

theorem dig_at {a : List Int} {i : Nat} (h : i < a.length) : a[i] = dig a i := by simp [dig, h]
theorem dig_out {a : List Int} {i : Nat} (h : a.length ≤ i) : dig a i = 0 := by simp [dig, h]
theorem dig_range {a : List Int} (ha : digs a) (i : Nat) : 0 ≤ dig a i ∧ dig a i ≤ 9 := by
 by_cases h : i < a.length
 ·rw [← dig_at h]; exact ha _ (List.getElem_mem h)
 ·rw [dig_out (by omega)]; omega
theorem dig_top {a : List Int} (ta : top a) {i : Nat} (h : i + 1 = a.length) : dig a i ≠ 0 := by
 have hi : i < a.length := by omega
 rw [← dig_at hi]
 refine ta _ ?_
 rw [List.getLast?_eq_getElem?, show a.length - 1 = i by omega, List.getElem?_eq_getElem hi]

theorem take_val (a : List Int) (i : Nat) : dval (a.take (i + 1)) = dval (a.take i) + p10 i * dig a i := by
 by_cases h : i < a.length
 ·rw [List.take_succ_eq_append_getElem h, dval_append, List.length_take, Nat.min_eq_left (by omega), dig_at h]
  simp [dval]
 ·rw [dig_out (by omega), List.take_of_length_le (by omega), List.take_of_length_le (by omega)]; simp

theorem tdiv10 {n : Int} (h0 : 0 ≤ n) : n.tdiv 10 = n / 10 := Int.tdiv_eq_ediv_of_nonneg h0
theorem tmod10 {n : Int} (h0 : 0 ≤ n) : n.tmod 10 = n % 10 := Int.tmod_eq_emod_of_nonneg h0

theorem plus_step {a b : List Int} (ha : digs a) (hb : digs b) (la : a.length < 1000000) (lb : b.length < 1000000) (k i : Nat) (l : List Int) (c : Int) (hl : l.length = i) (hi : i < 1000002) (c0 : 0 ≤ c) (c1 : c ≤ 1)
  (hc : i < a.length ∨ i < b.length ∨ 0 < c) :
  ref1_plus_l1 a b (k + 1) l c (i : Int) = ref1_plus_l1 a b k (l ++ [(c + dig a i + dig b i) % 10]) ((c + dig a i + dig b i) / 10) ((i + 1 : Nat) : Int) := by
 obtain ⟨a0, a9⟩ := dig_range ha i
 obtain ⟨b0, b9⟩ := dig_range hb i
 have j3 : ∀ n : Int, n = c + dig a i + dig b i → ref1_plus_j3 (ref1_plus_l1 a b k) l (i : Int) n = ref1_plus_l1 a b k (l ++ [(c + dig a i + dig b i) % 10]) ((c + dig a i + dig b i) / 10) ((i + 1 : Nat) : Int) := by
  rintro n rfl
  unfold ref1_plus_j3 grd
  rw [if_pos (by omega), tdiv10 (by omega), tmod10 (by omega), w64 (x := (c + dig a i + dig b i) / 10) (by omega) (by omega), w64 (by omega) (by omega), show (i : Int) + 1 = ((i + 1 : Nat) : Int) by omega]
 have j2 : ref1_plus_j2 (ref1_plus_l1 a b k) b l (i : Int) (c + dig a i) = ref1_plus_l1 a b k (l ++ [(c + dig a i + dig b i) % 10]) ((c + dig a i + dig b i) / 10) ((i + 1 : Nat) : Int) := by
  unfold ref1_plus_j2
  by_cases h : i < b.length
  ·rw [dec_lt h, ift_true, at_nat h, bnd_some', dig_at h, w64 (by omega) (by omega)]
   exact j3 _ rfl
  ·rw [show decide ((i : Int) < (b.length : Int)) = false by simp; omega, ift_false]
   exact j3 _ (by rw [dig_out (a := b) (by omega)]; omega)
 have j1 : ref1_plus_j1 (ref1_plus_l1 a b k) a b l c (i : Int) true = ref1_plus_l1 a b k (l ++ [(c + dig a i + dig b i) % 10]) ((c + dig a i + dig b i) / 10) ((i + 1 : Nat) : Int) := by
  unfold ref1_plus_j1
  rw [ift_true]
  by_cases h : i < a.length
  ·rw [dec_lt h, ift_true, at_nat h, bnd_some', dig_at h, w64 (by omega) (by omega)]
   exact j2
  ·rw [show decide ((i : Int) < (a.length : Int)) = false by simp; omega, ift_false]
   have e : c + dig a i = c := by rw [dig_out (by omega)]; omega
   rw [e] at j2 ⊢
   exact j2
 rw [ref1_plus_l1]
 by_cases h : i < a.length
 ·rw [dec_lt h, ift_true]; exact j1
 ·rw [show decide ((i : Int) < (a.length : Int)) = false by simp; omega, ift_false]
  by_cases h' : i < b.length
  ·rw [dec_lt h', ift_true]; exact j1
  ·rw [show decide ((i : Int) < (b.length : Int)) = false by simp; omega, ift_false, show decide ((0 : Int) < c) = true by simp; omega]; exact j1

theorem plus_loop {a b : List Int} (ha : digs a) (hb : digs b) (ta : top a) (tb : top b) (la : a.length < 1000) (lb : b.length < 1000) : ∀ (k i : Nat) (l : List Int) (c : Int),
  l.length = i → digs l → 0 ≤ c → c ≤ 1 → i ≤ max a.length b.length + 1 → (i = max a.length b.length + 1 → c = 0) → max a.length b.length + 1 - i < k →
  dval l + p10 i * c = dval (a.take i) + dval (b.take i) → (i < a.length ∨ i < b.length ∨ 0 < c ∨ top l) →
  ∃ r, ref1_plus_l1 a b k l c (i : Int) = some r ∧ digs r ∧ top r ∧ dval r = dval a + dval b ∧ r.length ≤ max a.length b.length + 1 := by
 intro k
 induction k with
 | zero => intro i l c _ _ _ _ _ _ h; omega
 | succ k ih =>
  intro i l c hl dl c0 c1 hi hlast hk hv ht
  by_cases hc : i < a.length ∨ i < b.length ∨ 0 < c
  ·rw [plus_step ha hb (by omega) (by omega) k i l c hl (by omega) c0 c1 hc]
   obtain ⟨a0, a9⟩ := dig_range ha i
   obtain ⟨b0, b9⟩ := dig_range hb i
   have hi' : i ≤ max a.length b.length := by
    by_cases e : i = max a.length b.length + 1
    ·have := hlast e; omega
    ·omega
   refine ih (i + 1) _ _ (by simp [hl]) (digs_snoc dl (by omega) (by omega)) (by omega) (by omega) (by omega) (fun e => ?_) (by omega) ?_ ?_
   ·have e1 : dig a i = 0 := dig_out (by omega)
    have e2 : dig b i = 0 := dig_out (by omega)
    omega
   ·rw [take_val, take_val, dval_append, hl]
    simp only [dval, p10]
    have e : p10 i * ((c + dig a i + dig b i) % 10 + 10 * 0) + p10 i * 10 * ((c + dig a i + dig b i) / 10) = p10 i * (c + dig a i + dig b i) := by
     rw [Int.mul_assoc, ← Int.mul_add]; congr 1; omega
    have e2 : p10 i * (c + dig a i + dig b i) = p10 i * c + p10 i * dig a i + p10 i * dig b i := by rw [Int.mul_add, Int.mul_add]
    omega
   ·by_cases h1 : i + 1 < a.length ∨ i + 1 < b.length ∨ 0 < (c + dig a i + dig b i) / 10
    ·rcases h1 with h1 | h1 | h1
     ·exact .inl h1
     ·exact .inr (.inl h1)
     ·exact .inr (.inr (.inl h1))
    ·refine .inr (.inr (.inr (top_snoc ?_)))
     rcases hc with hc | hc | hc
     ·have := dig_top ta (i := i) (by omega); omega
     ·have := dig_top tb (i := i) (by omega); omega
     ·omega
  ·have hc0 : c = 0 := by omega
   subst hc0
   rw [ref1_plus_l1, show decide ((i : Int) < (a.length : Int)) = false by simp; omega, show decide ((i : Int) < (b.length : Int)) = false by simp; omega, ift_false, ift_false]
   refine ⟨l, rfl, dl, ?_, ?_, by omega⟩
   ·rcases ht with h | h | h | h
    ·omega
    ·omega
    ·omega
    ·exact h
   ·rw [List.take_of_length_le (by omega), List.take_of_length_le (by omega)] at hv
    simpa using hv

theorem plus_eq {a b : List Int} (ha : digs a) (hb : digs b) (ta : top a) (tb : top b) (la : a.length < 1000) (lb : b.length < 1000) :
  ∃ r, ref1_plus a b = some r ∧ digs r ∧ top r ∧ dval r = dval a + dval b ∧ r.length ≤ max a.length b.length + 1 := by
 unfold ref1_plus
 exact plus_loop ha hb ta tb la lb BIG 0 [] 0 rfl digs_nil (by omega) (by omega) (by omega) (fun _ => rfl) (by rw [big_val]; omega) (by simp [dval]) (.inr (.inr (.inr top_nil)))

end Go.Proofs.YtmaemlebpjnmoaaGreatDoor
namespace Go.Proofs.YtmaemlebpjnmoaaGreatDoor
open Go Go.SX Go.SX.Cal Go.Lib
set_option linter.unusedVariables false
set_option linter.unusedSimpArgs false

theorem grd_pos {β : Type} {p : Prop} [Decidable p] {x : Option β} (h : p) : grd p x = x := if_pos h

def ab (n : Int) : Int := if n < 0 then -n else n

theorem digs_app {l : List Int} {x : Int} (h : digs l) (hx : 0 ≤ x ∧ x ≤ 9) : digs (l ++ [x]) := by
 intro d hd
 rcases List.mem_append.1 hd with h1 | h1
 ·exact h d h1
 ·simp at h1; subst h1; exact hx

theorem wideOf_loop {n : Int} (hn0 : -9223372036854775808 ≤ n) (hn1 : n ≤ 9223372036854775807) : ∀ (k : Nat) (l : List Int) (m : Int), l.length ≤ 19 → 19 - l.length < k → digs l → (m = 0 → top l) → ab m < p10 (19 - l.length) → -9223372036854775808 ≤ m → m ≤ 9223372036854775807 → ab n = dval l + p10 l.length * ab m →
  ∃ d, ref1_wideOf_l1 n k l m = some ⟨decide (n < 0), d⟩ ∧ digs d ∧ top d ∧ d.length ≤ 19 ∧ dval d = ab n := by
 intro k
 induction k with
 | zero => intro l m h1 h2; omega
 | succ k ih =>
  intro l m hl hk hd ht hm m0 m1 hv
  rw [ref1_wideOf_l1]
  by_cases h0 : m = 0
  ·subst h0
   rw [show ((0 : Int) != 0) = false from rfl, ift_false]
   exact ⟨l, rfl, hd, ht rfl, hl, by simp [ab] at hv ⊢; omega⟩
  ·have hlen : l.length < 19 := by
    apply Classical.byContradiction
    intro hn
    have : l.length = 19 := by omega
    rw [this] at hm
    simp only [Nat.sub_self, p10] at hm
    unfold ab at hm; split at hm <;> omega
   rw [show (m != 0) = true by simp [h0], ift_true]
   have hq : m.tdiv 10 = if m < 0 then -((-m) / 10) else m / 10 := by
    by_cases hneg : m < 0
    ·rw [if_pos hneg]
     have : m = -(-m) := by omega
     rw [this, Int.neg_tdiv, Int.neg_neg, Int.tdiv_eq_ediv_of_nonneg (by omega)]
    ·rw [if_neg hneg, Int.tdiv_eq_ediv_of_nonneg (by omega)]
   have hr : m.tmod 10 = if m < 0 then -((-m) % 10) else m % 10 := by
    by_cases hneg : m < 0
    ·rw [if_pos hneg]
     have : m = -(-m) := by omega
     rw [this, Int.neg_tmod, Int.neg_neg, Int.tmod_eq_emod_of_nonneg (by omega)]
    ·rw [if_neg hneg, Int.tmod_eq_emod_of_nonneg (by omega)]
   have step : ∀ x, x = ab m % 10 → ref1_wideOf_j1 (ref1_wideOf_l1 n k) l m x = ref1_wideOf_l1 n k (l ++ [ab m % 10]) (m.tdiv 10) := by
    intro x hx
    unfold ref1_wideOf_j1
    rw [grd_pos (by omega), hx, w64 (by rw [hq]; split <;> omega) (by rw [hq]; split <;> omega)]
   have hgo : ref1_wideOf_l1 n k (l ++ [ab m % 10]) (m.tdiv 10) = ref1_wideOf_l1 n k (l ++ [ab m % 10]) (m.tdiv 10) := rfl
   have habq : ab (m.tdiv 10) = ab m / 10 := by
    rw [hq]; unfold ab
    by_cases hneg : m < 0
    ·simp only [hneg, if_true]; split <;> omega
    ·simp only [hneg, if_false]; split <;> omega
   have hab0 : 0 ≤ ab m := by unfold ab; split <;> omega
   have hp : p10 (19 - l.length) = p10 (19 - (l ++ [ab m % 10]).length) * 10 := by
    rw [show 19 - l.length = (19 - (l ++ [ab m % 10]).length) + 1 by simp; omega]; rfl
   have nxt := ih (l ++ [ab m % 10]) (m.tdiv 10) (by simp; omega) (by simp; omega) (digs_app hd (by omega)) (fun hz => by
     intro d hdl
     simp at hdl
     subst hdl
     have h1 : ab m / 10 = 0 := by rw [← habq, hz]; rfl
     have h2 : ab m ≠ 0 := by unfold ab; split <;> omega
     omega) (by rw [habq]; rw [hp] at hm; omega) (by rw [hq]; split <;> omega) (by rw [hq]; split <;> omega) (by
     rw [dval_append, List.length_append, List.length_singleton, habq, hv]
     simp only [dval, p10]
     have e : ab m = ab m % 10 + 10 * (ab m / 10) := by omega
     have e2 : p10 l.length * ab m = p10 l.length * (ab m % 10) + p10 l.length * 10 * (ab m / 10) := by
      rw [Int.mul_assoc, ← Int.mul_add, ← e]
     rw [e2]; simp only [Int.mul_zero, Int.add_zero]; omega)
   by_cases hneg : m.tmod 10 < 0
   ·rw [show decide (m.tmod 10 < 0) = true by simpa using hneg, ift_true]
    have hx : IntKind.i64.wrap (0 - m.tmod 10) = ab m % 10 := by
     rw [w64 (by rw [hr]; split <;> omega) (by rw [hr]; split <;> omega)]
     rw [hr] at hneg ⊢
     unfold ab
     by_cases h : m < 0
     ·simp only [h, if_true]; omega
     ·simp only [h, if_false] at hneg; omega
    rw [step _ hx]; exact nxt
   ·rw [show decide (m.tmod 10 < 0) = false by simpa using hneg, ift_false]
    have hx : m.tmod 10 = ab m % 10 := by
     rw [hr] at hneg ⊢
     unfold ab
     by_cases h : m < 0
     ·simp only [h, if_true] at hneg ⊢; omega
     ·simp only [h, if_false]
    rw [step _ hx]; exact nxt

theorem minus_step {a b : List Int} (ha : digs a) (hb : digs b) (la : a.length < 1000000) (k i : Nat) (l : List Int) (c : Int) (hl : l.length = i) (c0 : 0 ≤ c) (c1 : c ≤ 1) (hi : i < a.length) :
  ref1_minus_l1 a b (k + 1) l c (i : Int) = if dig a i - c - dig b i < 0 then ref1_minus_l1 a b k (l ++ [dig a i - c - dig b i + 10]) 1 ((i + 1 : Nat) : Int) else ref1_minus_l1 a b k (l ++ [dig a i - c - dig b i]) 0 ((i + 1 : Nat) : Int) := by
 obtain ⟨a0, a9⟩ := dig_range ha i
 obtain ⟨b0, b9⟩ := dig_range hb i
 have j1 : ∀ n : Int, n = dig a i - c - dig b i → ref1_minus_j1 (ref1_minus_l1 a b k) l (i : Int) n = if dig a i - c - dig b i < 0 then ref1_minus_l1 a b k (l ++ [dig a i - c - dig b i + 10]) 1 ((i + 1 : Nat) : Int) else ref1_minus_l1 a b k (l ++ [dig a i - c - dig b i]) 0 ((i + 1 : Nat) : Int) := by
  rintro n rfl
  unfold ref1_minus_j1 ref1_minus_j2
  rw [grd_pos (by omega), grd_pos (by omega), w64 (x := (i : Int) + 1) (by omega) (by omega), show (i : Int) + 1 = ((i + 1 : Nat) : Int) by omega]
  by_cases h : dig a i - c - dig b i < 0
  ·rw [show decide (dig a i - c - dig b i < 0) = true by simpa using h, ift_true, if_pos h, w64 (by omega) (by omega)]
  ·rw [show decide (dig a i - c - dig b i < 0) = false by simpa using h, ift_false, if_neg h]
 rw [ref1_minus_l1, dec_lt hi, ift_true, at_nat hi, bnd_some', dig_at hi, w64 (x := dig a i - c) (by omega) (by omega)]
 by_cases h : i < b.length
 ·rw [dec_lt h, ift_true, at_nat h, bnd_some', dig_at h, w64 (by omega) (by omega)]
  exact j1 _ rfl
 ·rw [show decide ((i : Int) < (b.length : Int)) = false by simp; omega, ift_false]
  exact j1 _ (by rw [dig_out (a := b) (by omega)]; omega)

theorem minus_loop {a b : List Int} (ha : digs a) (hb : digs b) (la : a.length < 1000) (lb : b.length ≤ a.length) (hab : dval b ≤ dval a) : ∀ (k i : Nat) (l : List Int) (c : Int),
  l.length = i → digs l → 0 ≤ c → c ≤ 1 → i ≤ a.length → a.length - i < k → dval l = dval (a.take i) - dval (b.take i) + p10 i * c →
  ∃ r, ref1_minus_l1 a b k l c (i : Int) = some r ∧ digs r ∧ top r ∧ dval r = dval a - dval b ∧ r.length ≤ a.length := by
 intro k
 induction k with
 | zero => intro i l c _ _ _ _ _ h; omega
 | succ k ih =>
  intro i l c hl dl c0 c1 hi hk hv
  by_cases he : i = a.length
  ·subst he
   rw [ref1_minus_l1, show decide ((a.length : Int) < (a.length : Int)) = false by simp, ift_false]
   unfold ref1_minus_j3
   rw [List.take_of_length_le (Nat.le_refl _), List.take_of_length_le lb] at hv
   have hlt := dval_lt dl
   rw [hl] at hlt
   have hc : c = 0 := by
    by_cases h : c = 0
    ·exact h
    ·have : c = 1 := by omega
     subst this
     omega
   subst hc
   obtain ⟨d', h1, h2, h3, h4, h5⟩ := cut_eq false l (by omega) dl
   rw [h1, bnd_some']
   exact ⟨d', rfl, h2, h3, by rw [h4, hv]; omega, by omega⟩
  ·obtain ⟨a0, a9⟩ := dig_range ha i
   obtain ⟨b0, b9⟩ := dig_range hb i
   rw [minus_step ha hb (by omega) k i l c hl c0 c1 (by omega)]
   have hp : p10 i * (dig a i - c - dig b i) = p10 i * dig a i - p10 i * c - p10 i * dig b i := by rw [Int.mul_sub, Int.mul_sub]
   by_cases h : dig a i - c - dig b i < 0
   ·rw [if_pos h]
    refine ih (i + 1) _ 1 (by simp [hl]) (digs_snoc dl (by omega) (by omega)) (by omega) (by omega) (by omega) (by omega) ?_
    rw [take_val, take_val, dval_append, hl]
    simp only [dval, p10]
    rw [Int.mul_add, Int.mul_add, hp]; omega
   ·rw [if_neg h]
    refine ih (i + 1) _ 0 (by simp [hl]) (digs_snoc dl (by omega) (by omega)) (by omega) (by omega) (by omega) (by omega) ?_
    rw [take_val, take_val, dval_append, hl]
    simp only [dval, p10]
    rw [Int.mul_add, hp]; omega

theorem len_le {a b : List Int} (ha : digs a) (hb : digs b) (tb : top b) (hab : dval b ≤ dval a) : b.length ≤ a.length := by
 by_cases h : b.length ≤ a.length
 ·exact h
 ·have h1 := dval_lt ha
  have h2 := dval_ge hb tb (by rintro rfl; simp at h)
  have := p10_mono (show a.length ≤ b.length - 1 by omega)
  omega

theorem minus_eq {a b : List Int} (ha : digs a) (hb : digs b) (tb : top b) (la : a.length < 1000) (hab : dval b ≤ dval a) :
  ∃ r, ref1_minus a b = some r ∧ digs r ∧ top r ∧ dval r = dval a - dval b ∧ r.length ≤ a.length := by
 unfold ref1_minus
 exact minus_loop ha hb la (len_le ha hb tb hab) hab BIG 0 [] 0 rfl digs_nil (by omega) (by omega) (by omega) (by rw [big_val]; omega) (by simp [dval])

end Go.Proofs.YtmaemlebpjnmoaaGreatDoor
namespace Go.Proofs.YtmaemlebpjnmoaaGreatDoor
open Go Go.SX Go.SX.Cal
set_option linter.unusedVariables false
set_option linter.unusedSimpArgs false

theorem mul_lin (p11 p10 p01 p00 : Int) (h11 : 0 ≤ p11 ∧ p11 ≤ 18446744065119617025) (h10 : 0 ≤ p10 ∧ p10 ≤ 18446744065119617025) (h01 : 0 ≤ p01 ∧ p01 ≤ 18446744065119617025) (h00 : 0 ≤ p00 ∧ p00 ≤ 18446744065119617025) :
  p11 + (p10 + p00 / 4294967296) / 4294967296 + ((p10 + p00 / 4294967296) % 4294967296 + p01) / 4294967296 = (p11 * 18446744073709551616 + (p10 + p01) * 4294967296 + p00) / 18446744073709551616 := by
 omega

theorem mul_eq {x y : Int} (h0 : 0 ≤ x) (h1 : x < 18446744073709551616) (k0 : 0 ≤ y) (k1 : y < 18446744073709551616) : math_bits_Mul64 x y = some (x * y / 18446744073709551616, x * y % 18446744073709551616) := by
 unfold math_bits_Mul64
 simp only [bnd_eq, sh32]
 rw [mask32 h0 h1, mask32 k0 k1]
 simp only [wu]
 have hx0 : 0 ≤ x % 4294967296 ∧ x % 4294967296 < 4294967296 := by omega
 have hx1 : 0 ≤ x / 4294967296 ∧ x / 4294967296 < 4294967296 := by omega
 have hy0 : 0 ≤ y % 4294967296 ∧ y % 4294967296 < 4294967296 := by omega
 have hy1 : 0 ≤ y / 4294967296 ∧ y / 4294967296 < 4294967296 := by omega
 have ex : x = x / 4294967296 * 4294967296 + x % 4294967296 := by omega
 have ey : y = y / 4294967296 * 4294967296 + y % 4294967296 := by omega
 have exy : x * y = (x / 4294967296 * (y / 4294967296)) * 18446744073709551616 + (x / 4294967296 * (y % 4294967296) + x % 4294967296 * (y / 4294967296)) * 4294967296 + x % 4294967296 * (y % 4294967296) := by
  generalize x / 4294967296 = x1 at *
  generalize x % 4294967296 = x0 at *
  generalize y / 4294967296 = y1 at *
  generalize y % 4294967296 = y0 at *
  rw [ex, ey]
  simp only [Int.add_mul, Int.mul_add]
  have e1 : x1 * 4294967296 * (y1 * 4294967296) = x1 * y1 * 18446744073709551616 := by
   rw [Int.mul_assoc, Int.mul_left_comm 4294967296 y1, ← Int.mul_assoc]; rfl
  have e2 : x1 * 4294967296 * y0 = x1 * y0 * 4294967296 := by rw [Int.mul_assoc, Int.mul_comm 4294967296, ← Int.mul_assoc]
  have e3 : x0 * (y1 * 4294967296) = x0 * y1 * 4294967296 := by rw [Int.mul_assoc]
  rw [e1, e2, e3]; omega
 have b11 := Go.SX.Cal.prod_bound hx1.1 hx1.2 hy1.1 hy1.2
 have b10 := Go.SX.Cal.prod_bound hx1.1 hx1.2 hy0.1 hy0.2
 have b01 := Go.SX.Cal.prod_bound hx0.1 hx0.2 hy1.1 hy1.2
 have b00 := Go.SX.Cal.prod_bound hx0.1 hx0.2 hy0.1 hy0.2
 rw [m64 (x := x % 4294967296) (by omega) (by omega), m64 (x := y % 4294967296) (by omega) (by omega)]
 have L := mul_lin _ _ _ _ b11 b10 b01 b00
 rw [exy]
 generalize x / 4294967296 * (y / 4294967296) = p11 at *
 generalize x / 4294967296 * (y % 4294967296) = p10 at *
 generalize x % 4294967296 * (y / 4294967296) = p01 at *
 generalize x % 4294967296 * (y % 4294967296) = p00 at *
 rw [m64 (x := p10) (by omega) (by omega), m64 (x := p00) (by omega) (by omega), m64 (x := p01) (by omega) (by omega), m64 (x := p11) (by omega) (by omega), m64 (x := p10 + p00 / 4294967296) (by omega) (by omega)]
 rw [mask32 (x := p10 + p00 / 4294967296) (by omega) (by omega)]
 rw [m64 (x := (p10 + p00 / 4294967296) % 4294967296) (by omega) (by omega), m64 (x := (p10 + p00 / 4294967296) % 4294967296 + p01) (by omega) (by omega)]
 rw [m64 (x := p11 + (p10 + p00 / 4294967296) / 4294967296) (by omega) (by omega), m64 (x := p11 + (p10 + p00 / 4294967296) / 4294967296 + ((p10 + p00 / 4294967296) % 4294967296 + p01) / 4294967296) (by omega) (by omega), L]

theorem times_eq {w : GWide} {n : Int} (h : W4 w) (n0 : 0 ≤ n) (n1 : n < 18446744073709551616) (hv : val w * n < 115792089237316195423570985008687907853269984665640564039457584007913129639936) :
  ∃ w', value_wide_times w n = some w' ∧ W4 w' ∧ val w' = val w * n ∧ w'.neg = w.neg := by
 obtain ⟨neg, x0, x1, x2, x3⟩ := w
 obtain ⟨a0, a1, b0, b1, c0, c1, d0, d1⟩ := h
 simp only at a0 a1 b0 b1 c0 c1 d0 d1
 unfold value_wide_times
 simp only
 rw [mul_eq a0 a1 n0 n1, mul_eq b0 b1 n0 n1, mul_eq c0 c1 n0 n1, mul_eq d0 d1 n0 n1]
 simp only [bnd_eq, wu]
 have hval : val ⟨neg, x0, x1, x2, x3⟩ * n = x0 * n + x1 * n * 18446744073709551616 + x2 * n * 340282366920938463463374607431768211456 + x3 * n * 6277101735386680763835789423207666416102355444464034512896 := by
  unfold val
  simp only [Int.add_mul]
  rw [Int.mul_right_comm x1, Int.mul_right_comm x2, Int.mul_right_comm x3]
 rw [hval] at hv ⊢
 obtain ⟨p1, p2, p3, p4⟩ := word_step (c := 0) a0 a1 n0 n1 (by decide) (by decide)
 simp only [Int.add_zero] at p1 p2 p3 p4 ⊢
 rw [p1, p2]
 generalize hc1 : x0 * n / 18446744073709551616 = k1 at *
 obtain ⟨q1, q2, q3, q4⟩ := word_step (c := k1) b0 b1 n0 n1 p3 p4
 rw [q1, q2]
 generalize hc2 : (x1 * n + k1) / 18446744073709551616 = k2 at *
 obtain ⟨r1, r2, r3, r4⟩ := word_step (c := k2) c0 c1 n0 n1 q3 q4
 rw [r1, r2]
 generalize hc3 : (x2 * n + k2) / 18446744073709551616 = k3 at *
 obtain ⟨s1, s2, s3, s4⟩ := word_step (c := k3) d0 d1 n0 n1 r3 r4
 rw [s2]
 have e0 := Int.mul_nonneg a0 n0
 have e1 := Int.mul_nonneg b0 n0
 have e2 := Int.mul_nonneg c0 n0
 have e3 := Int.mul_nonneg d0 n0
 clear p1 p2 q1 q2 r1 r2 s1 s2
 generalize x0 * n = P0 at *
 generalize x1 * n = P1 at *
 generalize x2 * n = P2 at *
 generalize x3 * n = P3 at *
 rw [grd_pos (by omega), grd_pos (by omega), grd_pos (by omega), grd_pos (by omega)]
 refine ⟨_, rfl, ⟨by simp only; omega, by simp only; omega, by simp only; omega, by simp only; omega, by simp only; omega, by simp only; omega, by simp only; omega, by simp only; omega⟩, ?_, rfl⟩
 simp only [val]
 have f0 : P0 = k1 * 18446744073709551616 + P0 % 18446744073709551616 := by omega
 have f1 : P1 + k1 = k2 * 18446744073709551616 + (P1 + k1) % 18446744073709551616 := by omega
 have f2 : P2 + k2 = k3 * 18446744073709551616 + (P2 + k2) % 18446744073709551616 := by omega
 have f3 : P3 + k3 = (P3 + k3) / 18446744073709551616 * 18446744073709551616 + (P3 + k3) % 18446744073709551616 := by omega
 have z : (P3 + k3) / 18446744073709551616 = 0 := by
  generalize P0 % 18446744073709551616 = m0 at *
  generalize (P1 + k1) % 18446744073709551616 = m1 at *
  generalize (P2 + k2) % 18446744073709551616 = m2 at *
  omega
 rw [z] at f3
 generalize P0 % 18446744073709551616 = m0 at *
 generalize (P1 + k1) % 18446744073709551616 = m1 at *
 generalize (P2 + k2) % 18446744073709551616 = m2 at *
 generalize (P3 + k3) % 18446744073709551616 = m3 at *
 omega

theorem csize_eq {a b : GWide} (ha : W4 a) (hb : W4 b) : value_compareSize a b = some (c3 (val a) (val b)) := by
 obtain ⟨n, x0, x1, x2, x3⟩ := a
 obtain ⟨m, y0, y1, y2, y3⟩ := b
 obtain ⟨a0, a1, b0, b1, c0, c1, d0, d1⟩ := ha
 obtain ⟨e0, e1, f0, f1, g0, g1, h0, h1⟩ := hb
 simp only at *
 unfold value_compareSize
 simp only [ift_ite, decide_eq_true_eq]
 unfold c3 val
 simp only
 by_cases q3 : x3 < y3
 ·rw [if_pos q3, if_pos (by omega)]
 rw [if_neg q3]
 by_cases q3' : y3 < x3
 ·rw [if_pos q3', if_neg (by omega), if_pos (by omega)]
 rw [if_neg q3']
 by_cases q2 : x2 < y2
 ·rw [if_pos q2, if_pos (by omega)]
 rw [if_neg q2]
 by_cases q2' : y2 < x2
 ·rw [if_pos q2', if_neg (by omega), if_pos (by omega)]
 rw [if_neg q2']
 by_cases q1 : x1 < y1
 ·rw [if_pos q1, if_pos (by omega)]
 rw [if_neg q1]
 by_cases q1' : y1 < x1
 ·rw [if_pos q1', if_neg (by omega), if_pos (by omega)]
 rw [if_neg q1']
 by_cases q0 : x0 < y0
 ·rw [if_pos q0, if_pos (by omega)]
 rw [if_neg q0]
 by_cases q0' : y0 < x0
 ·rw [if_pos q0', if_neg (by omega), if_pos (by omega)]
 rw [if_neg q0', if_neg (by omega), if_neg (by omega)]

def wd (A j : Nat) : Nat := A / 2 ^ (64 * j) % 2 ^ 64

def mkW (s : Bool) (A : Nat) : GWide := ⟨s, (wd A 0 : Int), (wd A 1 : Int), (wd A 2 : Int), (wd A 3 : Int)⟩

theorem eta_w (w : GWide) : GWide.mk w.neg (w.size.1, w.size.2.1, w.size.2.2.1, w.size.2.2.2) = w := rfl

theorem wd0 (A : Nat) : wd A 0 = A % 18446744073709551616 := by unfold wd; simp
theorem wd1 (A : Nat) : wd A 1 = A / 18446744073709551616 % 18446744073709551616 := by unfold wd; simp
theorem wd2 (A : Nat) : wd A 2 = A / 340282366920938463463374607431768211456 % 18446744073709551616 := by unfold wd; simp
theorem wd3 (A : Nat) : wd A 3 = A / 6277101735386680763835789423207666416102355444464034512896 % 18446744073709551616 := by unfold wd; simp

theorem mkW_w4 (s : Bool) (A : Nat) : W4 (mkW s A) := by
 have h : ∀ j, (0 : Int) ≤ (wd A j : Int) ∧ (wd A j : Int) < 18446744073709551616 := fun j => by
  have : wd A j < 2 ^ 64 := Nat.mod_lt _ (by decide)
  omega
 exact ⟨(h 0).1, (h 0).2, (h 1).1, (h 1).2, (h 2).1, (h 2).2, (h 3).1, (h 3).2⟩

theorem val_mkW (s : Bool) (A : Nat) (h : A < 115792089237316195423570985008687907853269984665640564039457584007913129639936) : val (mkW s A) = A := by
 unfold val mkW
 simp only [wd0, wd1, wd2, wd3]
 omega

theorem w4_mk {w : GWide} (h : W4 w) : w = mkW w.neg (val w).toNat := by
 obtain ⟨neg, x0, x1, x2, x3⟩ := w
 obtain ⟨a0, a1, b0, b1, c0, c1, d0, d1⟩ := h
 simp only at a0 a1 b0 b1 c0 c1 d0 d1
 unfold mkW val
 simp only [wd0, wd1, wd2, wd3, GWide.mk.injEq, Prod.mk.injEq, true_and]
 refine ⟨?_, ?_, ?_, ?_⟩ <;> omega

theorem w4_eq {w : GWide} {s : Bool} {A : Nat} (h : W4 w) (hs : w.neg = s) (hv : val w = A) : w = mkW s A := by
 rw [w4_mk h, hs, hv]; rfl

theorem times_mk (s : Bool) (A m : Nat) (hm : m < 18446744073709551616) (h : A * m < 115792089237316195423570985008687907853269984665640564039457584007913129639936) (hA : A < 115792089237316195423570985008687907853269984665640564039457584007913129639936) : value_wide_times (mkW s A) (m : Int) = some (mkW s (A * m)) := by
 have hv := val_mkW s A hA
 obtain ⟨w, h1, h2, h3, h4⟩ := times_eq (n := (m : Int)) (mkW_w4 s A) (by omega) (by omega) (by rw [hv]; omega)
 rw [h1, w4_eq h2 (s := s) (A := A * m) h4 (by rw [h3, hv]; push_cast; rfl)]

theorem csize_mk (s t : Bool) (A B : Nat) (hA : A < 115792089237316195423570985008687907853269984665640564039457584007913129639936) (hB : B < 115792089237316195423570985008687907853269984665640564039457584007913129639936) : value_compareSize (mkW s A) (mkW t B) = some (c3 (A : Int) (B : Int)) := by
 rw [csize_eq (mkW_w4 s A) (mkW_w4 t B), val_mkW s A hA, val_mkW t B hB]

theorem whole_mk (n : Int) (h0 : -9223372036854775808 ≤ n) (h1 : n ≤ 9223372036854775807) : value_whole n = some (mkW (decide (n < 0)) n.natAbs) := by
 unfold value_whole
 by_cases h : n < 0
 ·rw [show decide (n < 0) = true by simpa using h, ift_true]
  congr 1
  unfold mkW
  simp only [wd0, wd1, wd2, wd3, GWide.mk.injEq, Prod.mk.injEq, true_and, wu]
  refine ⟨?_, ?_, ?_, ?_⟩ <;> omega
 ·rw [show decide (n < 0) = false by simpa using h, ift_false]
  congr 1
  unfold mkW
  simp only [wd0, wd1, wd2, wd3, GWide.mk.injEq, Prod.mk.injEq, true_and, wu]
  refine ⟨?_, ?_, ?_, ?_⟩ <;> omega

theorem shifted_l (s : Bool) (d : Nat) (hd : d ≤ 1000) : ∀ (j k A i : Nat), i + j = d → j < k → A * 10 ^ j < 115792089237316195423570985008687907853269984665640564039457584007913129639936 →
  value_wide_shifted_l1 (d : Int) k s (wd A 0) (wd A 1) (wd A 2) (wd A 3) (i : Int) = some (mkW s (A * 10 ^ j)) := by
 intro j
 induction j with
 | zero =>
  intro k A i hi hk hA
  obtain ⟨k, rfl⟩ : ∃ q, k = q + 1 := ⟨k - 1, by omega⟩
  rw [value_wide_shifted_l1, show decide ((i : Int) < (d : Int)) = false by simp; omega, ift_false, Nat.pow_zero, Nat.mul_one]
  rfl
 | succ j ih =>
  intro k A i hi hk hA
  obtain ⟨k, rfl⟩ : ∃ q, k = q + 1 := ⟨k - 1, by omega⟩
  have e : A * 10 ^ (j + 1) = A * 10 * 10 ^ j := by rw [Nat.pow_succ, Nat.mul_comm (10 ^ j) 10, Nat.mul_assoc]
  have hp : 0 < 10 ^ j := Nat.pow_pos (by decide)
  have hle : A * 10 * 1 ≤ A * 10 * 10 ^ j := Nat.mul_le_mul_left _ hp
  rw [e] at hA ⊢
  have ht := times_mk s A 10 (by decide) (by omega) (by omega)
  rw [value_wide_shifted_l1, show decide ((i : Int) < (d : Int)) = true by simp; omega, ift_true]
  have ht' : value_wide_times (GWide.mk s ((wd A 0 : Int), (wd A 1 : Int), (wd A 2 : Int), (wd A 3 : Int))) (10 : Int) = some (mkW s (A * 10)) := ht
  rw [ht', bnd_some', w64 (by omega) (by omega), show (i : Int) + 1 = ((i + 1 : Nat) : Int) by omega]
  exact ih k (A * 10) (i + 1) (by omega) (by omega) hA

theorem shifted_mk (s : Bool) (A d : Nat) (hd : d ≤ 1000) (h : A * 10 ^ d < 115792089237316195423570985008687907853269984665640564039457584007913129639936) : value_wide_shifted (mkW s A) (d : Int) = some (mkW s (A * 10 ^ d)) :=
 shifted_l s d hd d BIG A 0 (by omega) (by rw [big_val]; omega) h

theorem scaled_mk (n : Int) (d : Nat) (h0 : -9223372036854775808 ≤ n) (h1 : n ≤ 9223372036854775807) (hd : d ≤ 1000) (h : n.natAbs * 10 ^ d < 115792089237316195423570985008687907853269984665640564039457584007913129639936) :
  value_scaled n (d : Int) = some (mkW (decide (n < 0)) (n.natAbs * 10 ^ d)) := by
 unfold value_scaled
 rw [whole_mk n h0 h1, bnd_some', eta_w, shifted_mk _ _ d hd h, bnd_some']

theorem minus_j_w {s t : Bool} {x0 x1 x2 x3 y0 y1 y2 y3 : Int} (ha : W4 ⟨s, x0, x1, x2, x3⟩) (hb : W4 ⟨t, y0, y1, y2, y3⟩) (hle : val ⟨t, y0, y1, y2, y3⟩ ≤ val ⟨s, x0, x1, x2, x3⟩) :
  ∃ w, value_wide_minus_j1 s x0 x1 x2 x3 t y0 y1 y2 y3 = some w ∧ W4 w ∧ w.neg = s ∧ val w = val ⟨s, x0, x1, x2, x3⟩ - val ⟨t, y0, y1, y2, y3⟩ := by
 obtain ⟨a0, a1, b0, b1, c0, c1, d0, d1⟩ := ha
 obtain ⟨e0, e1, f0, f1, g0, g1, h0, h1⟩ := hb
 simp only at a0 a1 b0 b1 c0 c1 d0 d1 e0 e1 f0 f1 g0 g1 h0 h1
 simp only [val] at hle ⊢
 unfold value_wide_minus_j1
 simp only [bnd_eq, Int.add_zero, Int.sub_zero]
 have k1 : ∃ u, (if x0 < y0 then (1 : Int) else 0) = u ∧ 0 ≤ u ∧ u ≤ 1 ∧ (x0 - y0) % 18446744073709551616 = x0 - y0 + u * 18446744073709551616 := by
  split
  ·exact ⟨1, rfl, by omega, by omega, by omega⟩
  ·exact ⟨0, rfl, by omega, by omega, by omega⟩
 obtain ⟨u1, p1, p2, p3, p4⟩ := k1
 rw [p1, p4]
 have k2 : ∃ u, (if x1 < y1 + u1 then (1 : Int) else 0) = u ∧ 0 ≤ u ∧ u ≤ 1 ∧ (x1 - y1 - u1) % 18446744073709551616 = x1 - y1 - u1 + u * 18446744073709551616 := by
  split
  ·exact ⟨1, rfl, by omega, by omega, by omega⟩
  ·exact ⟨0, rfl, by omega, by omega, by omega⟩
 obtain ⟨u2, q1, q2, q3, q4⟩ := k2
 rw [q1, q4]
 have k3 : ∃ u, (if x2 < y2 + u2 then (1 : Int) else 0) = u ∧ 0 ≤ u ∧ u ≤ 1 ∧ (x2 - y2 - u2) % 18446744073709551616 = x2 - y2 - u2 + u * 18446744073709551616 := by
  split
  ·exact ⟨1, rfl, by omega, by omega, by omega⟩
  ·exact ⟨0, rfl, by omega, by omega, by omega⟩
 obtain ⟨u3, r1, r2, r3, r4⟩ := k3
 rw [r1, r4]
 rw [grd_pos (by omega), grd_pos (by omega), grd_pos (by omega), grd_pos (by omega)]
 have p5 : 0 ≤ x0 - y0 + u1 * 18446744073709551616 ∧ x0 - y0 + u1 * 18446744073709551616 < 18446744073709551616 := by omega
 have q5 : 0 ≤ x1 - y1 - u1 + u2 * 18446744073709551616 ∧ x1 - y1 - u1 + u2 * 18446744073709551616 < 18446744073709551616 := by omega
 have r5 : 0 ≤ x2 - y2 - u2 + u3 * 18446744073709551616 ∧ x2 - y2 - u2 + u3 * 18446744073709551616 < 18446744073709551616 := by omega
 clear p1 p4 q1 q4 r1 r4
 have s5 : (x3 - y3 - u3) % 18446744073709551616 = x3 - y3 - u3 := by omega
 rw [s5]
 refine ⟨_, rfl, ⟨p5.1, p5.2, q5.1, q5.2, r5.1, r5.2, by simp only; omega, by simp only; omega⟩, rfl, ?_⟩
 simp only
 omega

theorem plus_same_w {k : Nat} {b : Bool} {x0 x1 x2 x3 y0 y1 y2 y3 : Int} (ha : W4 ⟨b, x0, x1, x2, x3⟩) (hb : W4 ⟨b, y0, y1, y2, y3⟩) (hv : val ⟨b, x0, x1, x2, x3⟩ + val ⟨b, y0, y1, y2, y3⟩ < 115792089237316195423570985008687907853269984665640564039457584007913129639936) :
  ∃ w, value_wide_plus (k + 1) ⟨b, x0, x1, x2, x3⟩ ⟨b, y0, y1, y2, y3⟩ = some w ∧ W4 w ∧ w.neg = b ∧ val w = val ⟨b, x0, x1, x2, x3⟩ + val ⟨b, y0, y1, y2, y3⟩ := by
 obtain ⟨a0, a1, b0, b1', c0, c1, d0, d1⟩ := ha
 obtain ⟨e0, e1, f0, f1, g0, g1, h0, h1⟩ := hb
 simp only at a0 a1 b0 b1' c0 c1 d0 d1 e0 e1 f0 f1 g0 g1 h0 h1
 rw [value_wide_plus]
 simp only [beq_self_eq_true, Bool.not_true, ift_false, bnd_eq, Int.add_zero]
 simp only [val] at hv ⊢
 have m0 : x0 + y0 = (x0 + y0) / 18446744073709551616 * 18446744073709551616 + (x0 + y0) % 18446744073709551616 := by omega
 have u0 : 0 ≤ (x0 + y0) / 18446744073709551616 ∧ (x0 + y0) / 18446744073709551616 ≤ 1 := by omega
 have v0 : 0 ≤ (x0 + y0) % 18446744073709551616 ∧ (x0 + y0) % 18446744073709551616 < 18446744073709551616 := by omega
 generalize (x0 + y0) / 18446744073709551616 = t0 at *
 generalize (x0 + y0) % 18446744073709551616 = r0 at *
 have m1 : x1 + y1 + t0 = (x1 + y1 + t0) / 18446744073709551616 * 18446744073709551616 + (x1 + y1 + t0) % 18446744073709551616 := by omega
 have u1 : 0 ≤ (x1 + y1 + t0) / 18446744073709551616 ∧ (x1 + y1 + t0) / 18446744073709551616 ≤ 1 := by omega
 have v1 : 0 ≤ (x1 + y1 + t0) % 18446744073709551616 ∧ (x1 + y1 + t0) % 18446744073709551616 < 18446744073709551616 := by omega
 generalize (x1 + y1 + t0) / 18446744073709551616 = t1 at *
 generalize (x1 + y1 + t0) % 18446744073709551616 = r1 at *
 have m2 : x2 + y2 + t1 = (x2 + y2 + t1) / 18446744073709551616 * 18446744073709551616 + (x2 + y2 + t1) % 18446744073709551616 := by omega
 have u2 : 0 ≤ (x2 + y2 + t1) / 18446744073709551616 ∧ (x2 + y2 + t1) / 18446744073709551616 ≤ 1 := by omega
 have v2 : 0 ≤ (x2 + y2 + t1) % 18446744073709551616 ∧ (x2 + y2 + t1) % 18446744073709551616 < 18446744073709551616 := by omega
 generalize (x2 + y2 + t1) / 18446744073709551616 = t2 at *
 generalize (x2 + y2 + t1) % 18446744073709551616 = r2 at *
 have m3 : x3 + y3 + t2 = (x3 + y3 + t2) / 18446744073709551616 * 18446744073709551616 + (x3 + y3 + t2) % 18446744073709551616 := by omega
 have u3 : 0 ≤ (x3 + y3 + t2) / 18446744073709551616 ∧ (x3 + y3 + t2) / 18446744073709551616 ≤ 1 := by omega
 have v3 : 0 ≤ (x3 + y3 + t2) % 18446744073709551616 ∧ (x3 + y3 + t2) % 18446744073709551616 < 18446744073709551616 := by omega
 generalize (x3 + y3 + t2) / 18446744073709551616 = t3 at *
 generalize (x3 + y3 + t2) % 18446744073709551616 = r3 at *
 rw [grd_pos (by omega), grd_pos (by omega), grd_pos (by omega), grd_pos (by omega)]
 have z : t3 = 0 := by omega
 subst z
 refine ⟨_, rfl, ⟨v0.1, v0.2, v1.1, v1.2, v2.1, v2.2, v3.1, v3.2⟩, rfl, ?_⟩
 simp only
 omega

theorem minus_j_mk (a b : GWide) (ha : W4 a) (hb : W4 b) (hle : val b ≤ val a) :
  value_wide_minus_j1 a.neg a.size.1 a.size.2.1 a.size.2.2.1 a.size.2.2.2 b.neg b.size.1 b.size.2.1 b.size.2.2.1 b.size.2.2.2 = some (mkW a.neg (val a - val b).toNat) := by
 obtain ⟨w, h1, h2, h3, h4⟩ := minus_j_w ha hb hle
 rw [h1, w4_mk h2, h3, h4]

theorem plus_same_mk (k : Nat) (s : Bool) (A B : Nat) (hv : A + B < 115792089237316195423570985008687907853269984665640564039457584007913129639936) :
  value_wide_plus (k + 1) (mkW s A) (mkW s B) = some (mkW s (A + B)) := by
 have va := val_mkW s A (by omega)
 have vb := val_mkW s B (by omega)
 have hv' : val (mkW s A) + val (mkW s B) < 115792089237316195423570985008687907853269984665640564039457584007913129639936 := by rw [va, vb]; omega
 obtain ⟨w, h1, h2, h3, h4⟩ := plus_same_w (k := k) (mkW_w4 s A) (mkW_w4 s B) hv'
 have h5 : val w = ((A + B : Nat) : Int) := by
  have : val w = val (mkW s A) + val (mkW s B) := h4
  rw [this, va, vb]; omega
 have h6 := w4_eq h2 h3 h5
 rw [h6] at h1
 exact h1

def sgv (s : Bool) (A : Nat) : Int := if s = true then -(A : Int) else (A : Int)

theorem c3_neg {a b : Int} : decide (c3 a b < 0) = decide (a < b) := by
 unfold c3
 by_cases h : a < b
 ·simp [h]
 ·rw [if_neg h]; split <;> simp [h]

theorem minus_same_mk (k : Nat) (s : Bool) (A B : Nat) (hA : A < 115792089237316195423570985008687907853269984665640564039457584007913129639936) (hB : B < 115792089237316195423570985008687907853269984665640564039457584007913129639936) :
  value_wide_minus (k + 1) (mkW s A) (mkW s B) = some (if A < B then mkW (!s) (B - A) else mkW s (A - B)) := by
 rw [value_wide_minus, show (mkW s A).neg = s from rfl, show (mkW s B).neg = s from rfl]
 simp only [beq_self_eq_true, Bool.not_true, ift_false]
 have e := csize_mk s s A B hA hB
 have e' : value_compareSize (GWide.mk s ((mkW s A).size.1, (mkW s A).size.2.1, (mkW s A).size.2.2.1, (mkW s A).size.2.2.2)) (GWide.mk s ((mkW s B).size.1, (mkW s B).size.2.1, (mkW s B).size.2.2.1, (mkW s B).size.2.2.2)) = some (c3 (A : Int) (B : Int)) := e
 rw [e', bnd_some', c3_neg]
 by_cases h : A < B
 ·rw [show decide ((A : Int) < (B : Int)) = true by simpa using h, ift_true, if_pos h]
  unfold value_wide_negated
  rw [bnd_some']
  have va := val_mkW s A hA
  have vb := val_mkW (!s) B hB
  have q := minus_j_mk (mkW (!s) B) (mkW s A) (mkW_w4 _ _) (mkW_w4 _ _) (by rw [va, vb]; omega)
  rw [va, vb, show ((B : Int) - (A : Int)).toNat = B - A by omega] at q
  exact q
 ·rw [show decide ((A : Int) < (B : Int)) = false by simpa using h, ift_false, if_neg h]
  have va := val_mkW s A hA
  have vb := val_mkW s B hB
  have q := minus_j_mk (mkW s A) (mkW s B) (mkW_w4 _ _) (mkW_w4 _ _) (by rw [va, vb]; omega)
  rw [va, vb, show ((A : Int) - (B : Int)).toNat = A - B by omega] at q
  exact q

theorem plus_mk (s t : Bool) (A B : Nat) (hv : A + B < 115792089237316195423570985008687907853269984665640564039457584007913129639936) :
  ∃ u C, value_wide_plus BIG (mkW s A) (mkW t B) = some (mkW u C) ∧ sgv u C = sgv s A + sgv t B ∧ C ≤ A + B := by
 have hB : BIG = 1152921504606846974 + 1 + 1 := rfl
 by_cases h : s = t
 ·subst h
  rw [hB, plus_same_mk _ s A B hv]
  refine ⟨s, A + B, rfl, ?_, Nat.le_refl _⟩
  unfold sgv; cases s <;> simp <;> omega
 ·rw [hB, value_wide_plus, show (mkW s A).neg = s from rfl, show (mkW t B).neg = t from rfl]
  have hb := bool_ne s t h
  rw [hb.1, ift_true]
  unfold value_wide_negated
  rw [bnd_some']
  show ∃ u C, bnd (value_wide_minus (1152921504606846974 + 1) (mkW s A) (mkW (!t) B)) _ = _ ∧ _
  rw [hb.2, minus_same_mk _ s A B (by omega) (by omega), bnd_some', eta_w]
  by_cases hlt : A < B
  ·rw [if_pos hlt]
   refine ⟨!s, B - A, rfl, ?_, by omega⟩
   unfold sgv; revert h; cases s <;> cases t <;> simp <;> omega
  ·rw [if_neg hlt]
   refine ⟨s, A - B, rfl, ?_, by omega⟩
   unfold sgv; revert h; cases s <;> cases t <;> simp <;> omega

end Go.Proofs.YtmaemlebpjnmoaaGreatDoor
namespace Go.Proofs.YtmaemlebpjnmoaaGreatDoor
open Go Go.SX Go.SX.Cal
set_option linter.unusedVariables false
set_option linter.unusedSimpArgs false

theorem fd (x s : Nat) : (x : Int).fdiv (2 ^ s) = ((x / 2 ^ s : Nat) : Int) := by
 rw [Int.fdiv_eq_ediv_of_nonneg _ (Int.le_of_lt (Int.pow_pos (by decide)))]
 push_cast; rfl

abbrev QT := Int → Int → Int → Int → Bool → Int → Int → Int → Int → Int → Option (GWide × GWide)

end Go.Proofs.YtmaemlebpjnmoaaGreatDoor
namespace Go.Proofs.YtmaemlebpjnmoaaGreatDoor
open Go Go.SX Go.SX.Cal Go.Lib
set_option linter.unusedVariables false
set_option linter.unusedSimpArgs false

def sg (b : Bool) (z : Int) : Int := if b = true then -z else z

structure RWn (w : RWide) (z : Int) (N : Nat) : Prop where
 d : digs w.d
 t : top w.d
 l : w.d.length ≤ N
 b : w.below = true → w.d ≠ []
 v : z = sg w.below (dval w.d)

theorem dval_zero {l : List Int} (h : digs l) (t : top l) : dval l = 0 ↔ l = [] := by
 constructor
 ·intro e
  cases hl : l with
  | nil => rfl
  | cons x m =>
   have h1 := dval_ge h t (by simp [hl])
   have h2 := p10_pos (l.length - 1)
   omega
 ·rintro rfl; rfl

theorem rcut (b : Bool) (d : List Int) (N : Nat) (hl : d.length ≤ N) (hN : N < 1000000) (hd : digs d) : ∃ w, ref1_cut b d = some w ∧ RWn w (sg b (dval d)) N := by
 obtain ⟨d', h1, h2, h3, h4, h5⟩ := cut_eq b d (by omega) hd
 refine ⟨_, h1, h2, h3, by show d'.length ≤ N; omega, ?_, ?_⟩
 ·intro hb e
  have hb : (b && decide (0 < d'.length)) = true := hb
  have e : d' = [] := e
  simp [e] at hb
 ·show sg b (dval d) = sg (b && decide (0 < d'.length)) (dval d')
  cases hz : d' with
  | nil => rw [hz] at h4; simp [dval] at h4; simp [← h4, sg, dval]
  | cons x m => rw [← hz, h4]; simp [hz]

theorem rwideOf (n : Int) (h0 : -9223372036854775808 ≤ n) (h1 : n ≤ 9223372036854775807) : ∃ w, ref1_wideOf n = some w ∧ RWn w n 19 := by
 unfold ref1_wideOf
 obtain ⟨d, e1, e2, e3, e4, e5⟩ := wideOf_loop h0 h1 BIG [] n (by simp) (by rw [big_val]; simp) digs_nil (fun _ => top_nil) (by
  simp only [List.length_nil]
  have : p10 (19 - 0) = 10000000000000000000 := by decide
  rw [this]; unfold ab; split <;> omega) h0 h1 (by simp [dval, p10])
 refine ⟨_, e1, e2, e3, e4, ?_, ?_⟩
 ·intro hb e
  simp at hb e
  rw [e] at e5
  simp [dval, ab, hb] at e5
  omega
 ·show n = sg (decide (n < 0)) (dval d)
  rw [e5]
  unfold sg ab
  by_cases h : n < 0
  ·simp [h]
  ·simp [h]

end Go.Proofs.YtmaemlebpjnmoaaGreatDoor
namespace Go.Proofs.YtmaemlebpjnmoaaGreatDoor
open Go Go.SX Go.SX.Cal Go.Lib
set_option linter.unusedVariables false
set_option linter.unusedSimpArgs false

theorem dval_set : ∀ {l : List Int} {j : Nat} {e c : Int}, l[j]? = some e → dval (l.set j (e + c)) = dval l + p10 j * c
 | [], j, e, c, h => by simp at h
 | x :: l, 0, e, c, h => by
  simp at h; subst h
  simp only [List.set_cons_zero, dval, p10]; omega
 | x :: l, j + 1, e, c, h => by
  have ih := dval_set (l := l) (j := j) (e := e) (c := c) (by simpa using h)
  simp only [List.set_cons_succ, dval, p10, ih]
  rw [Int.mul_add, Int.mul_assoc (p10 j), Int.mul_left_comm 10 (p10 j) c]; omega

theorem p10_add (a : Nat) : ∀ b, p10 (a + b) = p10 a * p10 b
 | 0 => by simp [p10]
 | b + 1 => by rw [← Nat.add_assoc]; simp only [p10]; rw [p10_add a b, Int.mul_assoc]

theorem p10_pow : ∀ n, p10 n = ((10 ^ n : Nat) : Int)
 | 0 => rfl
 | n + 1 => by simp only [p10, p10_pow n, Nat.pow_succ]; push_cast; rfl

theorem RWn.mono {w : RWide} {z : Int} {N M : Nat} (h : RWn w z N) (hm : N ≤ M) : RWn w z M := ⟨h.d, h.t, Nat.le_trans h.l hm, h.b, h.v⟩

theorem RWn.neg {w : RWide} {z : Int} {N : Nat} (h : RWn w z N) : decide (z < 0) = w.below := by
 have h0 := dval_nonneg h.d
 have hv := h.v
 unfold sg at hv
 by_cases hb : w.below = true
 ·rw [if_pos hb] at hv
  have : dval w.d ≠ 0 := fun e => h.b hb ((dval_zero h.d h.t).1 e)
  rw [hb]; simp; omega
 ·rw [if_neg hb] at hv
  have hb' : w.below = false := by simpa using hb
  rw [hb']; simp; omega

theorem RWn.abs {w : RWide} {z : Int} {N : Nat} (h : RWn w z N) : dval w.d = (z.natAbs : Int) := by
 have h0 := dval_nonneg h.d
 have hv := h.v
 unfold sg at hv
 split at hv <;> omega

theorem RWn.nil {w : RWide} {z : Int} {N : Nat} (h : RWn w z N) : (w.d.length = 0) ↔ z = 0 := by
 have := h.abs
 have h2 := dval_zero h.d h.t
 rw [List.length_eq_zero_iff, ← h2]; omega

theorem RWn.lt {w : RWide} {z : Int} {N : Nat} (h : RWn w z N) : (z.natAbs : Int) < p10 N := by
 rw [← h.abs]
 exact Int.lt_of_lt_of_le (dval_lt h.d) (p10_mono h.l)

theorem RWn.tight {w : RWide} {z : Int} {N M : Nat} (h : RWn w z N) (hz : (z.natAbs : Int) < p10 M) : RWn w z M := by
 refine ⟨h.d, h.t, ?_, h.b, h.v⟩
 by_cases hn : w.d = []
 ·simp [hn]
 ·have h1 := dval_ge h.d h.t hn
  rw [h.abs] at h1
  apply Classical.byContradiction
  intro hc
  have := p10_mono (show M ≤ w.d.length - 1 by omega)
  omega

theorem radd {a b : RWide} {x y : Int} {N M : Nat} (ha : RWn a x N) (hb : RWn b y M) (hN : N < 900) (hM : M < 900) : ∃ w, ref1_addWide a b = some w ∧ RWn w (x + y) (max N M + 1) := by
 have hla := ha.l
 have hlb := hb.l
 have hva := ha.v
 have hvb := hb.v
 unfold ref1_addWide
 by_cases he : a.below = b.below
 ·rw [show (a.below == b.below) = true by simp [he], ift_true]
  obtain ⟨r, h1, h2, h3, h4, h5⟩ := plus_eq ha.d hb.d ha.t hb.t (by omega) (by omega)
  rw [h1, bnd_some']
  obtain ⟨w, g1, g2⟩ := rcut a.below r (max N M + 1) (by omega) (by omega) h2
  rw [g1, bnd_some']
  refine ⟨w, rfl, ?_⟩
  have e : sg a.below (dval r) = x + y := by
   rw [h4, hva, hvb, ← he]; unfold sg; split <;> omega
  rw [← e]; exact g2
 ·rw [show (a.below == b.below) = false by simp [he], ift_false]
  obtain ⟨r, h1, h2, h3, h4⟩ := most_eq ha.d hb.d ha.t hb.t (by omega) (by omega)
  rw [h1, bnd_some']
  have hs : ∀ z : Int, sg b.below z = - sg a.below z := fun z => by
   revert he; unfold sg; cases a.below <;> cases b.below <;> simp
  by_cases hr : 0 ≤ r
  ·have hle : dval b.d ≤ dval a.d := by
    unfold c3 at h4
    rw [if_neg (by omega)] at h4
    by_cases h : dval a.d < dval b.d
    ·rw [if_pos h] at h4; split at h4 <;> omega
    ·omega
   rw [show decide ((0 : Int) ≤ r) = true by simpa using hr, ift_true]
   obtain ⟨q, g1, g2, g3, g4, g5⟩ := minus_eq ha.d hb.d hb.t (by omega) hle
   rw [g1, bnd_some']
   obtain ⟨w, k1, k2⟩ := rcut a.below q (max N M + 1) (by omega) (by omega) g2
   rw [k1, bnd_some']
   refine ⟨w, rfl, ?_⟩
   have e : sg a.below (dval q) = x + y := by
    rw [g4, hva, hvb, hs]; unfold sg; split <;> omega
   rw [← e]; exact k2
  ·have hle : dval a.d ≤ dval b.d := by
    unfold c3 at h4
    rw [if_pos (by omega)] at h4
    by_cases h : dval a.d < dval b.d
    ·omega
    ·rw [if_neg h] at h4; split at h4 <;> omega
   rw [show decide ((0 : Int) ≤ r) = false by simp; omega, ift_false]
   obtain ⟨q, g1, g2, g3, g4, g5⟩ := minus_eq hb.d ha.d ha.t (by omega) hle
   rw [g1, bnd_some']
   obtain ⟨w, k1, k2⟩ := rcut b.below q (max N M + 1) (by omega) (by omega) g2
   rw [k1, bnd_some']
   refine ⟨w, rfl, ?_⟩
   have e : sg b.below (dval q) = x + y := by
    rw [g4, hva, hvb, hs, hs]; unfold sg; split <;> omega
   rw [← e]; exact k2

theorem dval_zeros : ∀ k, dval (List.replicate k 0) = 0
 | 0 => rfl
 | k + 1 => by rw [List.replicate_succ]; simp [dval, dval_zeros k]

theorem rtens {a : RWide} {x : Int} {N k : Nat} (ha : RWn a x N) (hN : N < 900) (hk : k < 900) : ∃ w, ref1_tens a (k : Int) = some w ∧ RWn w (x * p10 k) (N + k) := by
 unfold ref1_tens
 by_cases h : a.d.length = 0
 ·rw [show ((a.d.length : Int) == 0) = true by simp [h], ift_true]
  have hx := ha.nil.1 h
  subst hx
  exact ⟨a, rfl, by rw [Int.zero_mul]; exact ha.mono (by omega)⟩
 ·have hl := ha.l
  rw [show ((a.d.length : Int) == 0) = false by simpa using h, ift_false, grd_pos (by omega), grd_pos (by simp; omega)]
  refine ⟨_, rfl, ⟨?_, ?_, ?_, ?_, ?_⟩⟩
  ·intro d hd
   rcases List.mem_append.1 hd with h1 | h1
   ·have := List.eq_of_mem_replicate h1; omega
   ·exact ha.d d h1
  ·intro d hd
   have hne : a.d ≠ [] := by rintro e; simp [e] at h
   simp only at hd
   cases hq : a.d.getLast? with
   | none => exact absurd (List.getLast?_eq_none_iff.1 hq) hne
   | some z =>
    rw [List.getLast?_append, hq] at hd
    simp at hd
    exact ha.t d (by rw [hq, hd])
  ·simp; omega
  ·intro hb e
   simp at e
   exact ha.b hb e.2
  ·simp only
   rw [dval_append, dval_zeros, List.length_replicate, ha.v, show ((k : Int)).toNat = k by omega]
   unfold sg; split
   ·rw [Int.neg_mul, Int.mul_comm, Int.zero_add]
   ·rw [Int.mul_comm, Int.zero_add]

/-! ### products -/

theorem mem_set' {l : List Int} {j : Nat} {v B : Int} (h : ∀ e ∈ l, 0 ≤ e ∧ e ≤ B) (hv : 0 ≤ v ∧ v ≤ B) : ∀ e ∈ l.set j v, 0 ≤ e ∧ e ≤ B := by
 intro e he
 rcases List.mem_or_eq_of_mem_set he with h1 | h1
 ·exact h e h1
 ·subst h1; exact hv

theorem mul_inner {b : RWide} (hb : digs b.d) (lb : b.d.length < 400) (rec1 : List Int → Int → Option RWide) (i : Nat) (hi : i < 400) (e1 : Int) (h0 : 0 ≤ e1) (h9 : e1 ≤ 9) : ∀ (m f k : Nat) (l : List Int) (B : Int),
  k + m = b.d.length → m < f → i + b.d.length < l.length → 0 ≤ B → (∀ e ∈ l, 0 ≤ e ∧ e ≤ B) → B + 81 * m ≤ 100000000 →
  ∃ l', ref1_mulWide_l2 rec1 b (i : Int) e1 f l (k : Int) = rec1 l' ((i + 1 : Nat) : Int) ∧ l'.length = l.length ∧ (∀ e ∈ l', 0 ≤ e ∧ e ≤ B + 81 * m) ∧ dval l' = dval l + p10 (i + k) * (e1 * dval (b.d.drop k)) := by
 intro m
 induction m with
 | zero =>
  intro f k l B hk hf hl hB hb' hbd
  obtain ⟨f, rfl⟩ : ∃ q, f = q + 1 := ⟨f - 1, by omega⟩
  rw [ref1_mulWide_l2, show decide ((k : Int) < (b.d.length : Int)) = false by simp; omega, ift_false]
  unfold ref1_mulWide_j1
  rw [w64 (by omega) (by omega)]
  refine ⟨l, rfl, rfl, by simpa using hb', ?_⟩
  rw [List.drop_of_length_le (by omega)]; simp [dval]
 | succ m ih =>
  intro f k l B hk hf hl hB hb' hbd
  obtain ⟨f, rfl⟩ : ∃ q, f = q + 1 := ⟨f - 1, by omega⟩
  have hkb : k < b.d.length := by omega
  have rb := hb b.d[k] (List.getElem_mem hkb)
  have hik : i + k < l.length := by omega
  have re := hb' l[i + k] (List.getElem_mem hik)
  have hpr : 0 ≤ e1 * b.d[k] ∧ e1 * b.d[k] ≤ 81 := by
   refine ⟨Int.mul_nonneg h0 rb.1, ?_⟩
   have h1 : e1 * b.d[k] ≤ 9 * b.d[k] := Int.mul_le_mul_of_nonneg_right h9 rb.1
   omega
  rw [ref1_mulWide_l2, dec_lt hkb, ift_true, at_nat hkb, bnd_some', w64 (x := (i : Int) + (k : Int)) (by omega) (by omega), show (i : Int) + (k : Int) = ((i + k : Nat) : Int) by omega, at_nat hik, bnd_some', w64 (x := e1 * b.d[k]) (by omega) (by omega), w64 (by omega) (by omega), w64 (x := (k : Int) + 1) (by omega) (by omega), show ((i + k : Nat) : Int).toNat = i + k by omega, show (k : Int) + 1 = ((k + 1 : Nat) : Int) by omega]
  obtain ⟨l', q1, q2, q3, q4⟩ := ih f (k + 1) (l.set (i + k) (l[i + k] + e1 * b.d[k])) (B + 81) (by omega) (by omega) (by simpa using hl) (by omega) (mem_set' (fun e he => by have := hb' e he; omega) (by omega)) (by omega)
  refine ⟨l', q1, by simpa using q2, fun e he => by have := q3 e he; omega, ?_⟩
  rw [q4, dval_set (e := l[i + k]) (by simp [hik]), List.drop_eq_getElem_cons hkb]
  simp only [dval]
  rw [show i + (k + 1) = (i + k) + 1 by omega]
  simp only [p10]
  rw [Int.mul_add e1, Int.mul_add, Int.mul_assoc (p10 (i + k)), Int.mul_left_comm e1 10]; omega

theorem mul_outer {a b : RWide} (ha : digs a.d) (hb : digs b.d) (la : a.d.length < 400) (lb : b.d.length < 400) : ∀ (m f i : Nat) (l : List Int) (B : Int),
  i + m = a.d.length → m < f → l.length = a.d.length + b.d.length + 1 → 0 ≤ B → (∀ e ∈ l, 0 ≤ e ∧ e ≤ B) → B + 32400 * m ≤ 100000000 →
  ∃ l', ref1_mulWide_l1 a b f l (i : Int) = ref1_mulWide_j2 a b l' ∧ l'.length = l.length ∧ (∀ e ∈ l', 0 ≤ e ∧ e ≤ B + 32400 * m) ∧ dval l' = dval l + p10 i * (dval (a.d.drop i) * dval b.d) := by
 intro m
 induction m with
 | zero =>
  intro f i l B hi hf hl hB hb' hbd
  obtain ⟨f, rfl⟩ : ∃ q, f = q + 1 := ⟨f - 1, by omega⟩
  rw [ref1_mulWide_l1, show decide ((i : Int) < (a.d.length : Int)) = false by simp; omega, ift_false]
  refine ⟨l, rfl, rfl, by simpa using hb', ?_⟩
  rw [List.drop_of_length_le (by omega)]; simp [dval]
 | succ m ih =>
  intro f i l B hi hf hl hB hb' hbd
  obtain ⟨f, rfl⟩ : ∃ q, f = q + 1 := ⟨f - 1, by omega⟩
  have hia : i < a.d.length := by omega
  have ra := ha a.d[i] (List.getElem_mem hia)
  rw [ref1_mulWide_l1, dec_lt hia, ift_true, at_nat hia, bnd_some']
  obtain ⟨l1, q1, q2, q3, q4⟩ := mul_inner hb lb (ref1_mulWide_l1 a b f) i (by omega) a.d[i] ra.1 ra.2 b.d.length BIG 0 l B (by omega) (by rw [big_val]; omega) (by omega) hB hb' (by omega)
  rw [show ((0 : Nat) : Int) = 0 from rfl] at q1
  rw [q1]
  obtain ⟨l', k1, k2, k3, k4⟩ := ih f (i + 1) l1 (B + 32400) (by omega) (by omega) (by omega) (by omega) (fun e he => by have := q3 e he; omega) (by omega)
  refine ⟨l', k1, by omega, fun e he => by have := k3 e he; omega, ?_⟩
  rw [k4, q4, List.drop_eq_getElem_cons hia]
  simp only [dval, List.drop_zero, Nat.add_zero, p10]
  rw [Int.add_mul, Int.mul_add, Int.mul_assoc (p10 i), Int.mul_assoc 10]; omega

theorem mul_carry {a b : RWide} : ∀ (m f i : Nat) (l : List Int),
  i + m + 1 = l.length → m < f → l.length < 1000 → (∀ e ∈ l, 0 ≤ e) → digs (l.take i) → (∀ e, l[i]? = some e → e ≤ 100000000) → (∀ e ∈ l.drop (i + 1), e ≤ 50000000) →
  ∃ l', ref1_mulWide_l3 a b f l (i : Int) = ref1_mulWide_j3 a b l' ∧ l'.length = l.length ∧ (∀ e ∈ l', 0 ≤ e) ∧ digs (l'.take (l.length - 1)) ∧ dval l' = dval l := by
 intro m
 induction m with
 | zero =>
  intro f i l hi hf hl h0 hd hA hB
  obtain ⟨f, rfl⟩ : ∃ q, f = q + 1 := ⟨f - 1, by omega⟩
  rw [ref1_mulWide_l3, bnd_some', w64 (by omega) (by omega), show decide ((i : Int) + 1 < ((l.length : Nat) : Int)) = false by simp; omega, ift_false]
  exact ⟨l, rfl, rfl, h0, by rw [show l.length - 1 = i by omega]; exact hd, rfl⟩
 | succ m ih =>
  intro f i l hi hf hl h0 hd hA hB
  obtain ⟨f, rfl⟩ : ∃ q, f = q + 1 := ⟨f - 1, by omega⟩
  have hi0 : i < l.length := by omega
  have hi1 : i + 1 < l.length := by omega
  have ei : l[i]? = some l[i] := List.getElem?_eq_getElem hi0
  have ei1 : l[i + 1]? = some l[i + 1] := List.getElem?_eq_getElem hi1
  have b0 := h0 l[i] (List.getElem_mem hi0)
  have b1 := h0 l[i + 1] (List.getElem_mem hi1)
  have c0 := hA _ ei
  have c1 := hB l[i + 1] (by rw [List.drop_eq_getElem_cons hi1]; exact List.mem_cons_self)
  have hdv : IntKind.i64.wrap (l[i].tdiv 10) = l[i] / 10 := by rw [tdiv10 b0, w64 (by omega) (by omega)]
  have s1 : (l.set (i + 1) (l[i + 1] + l[i] / 10))[i]? = some l[i] := by rw [List.getElem?_set_ne (by omega), ei]
  have at6 : at? (l.set (i + 1) (l[i + 1] + l[i] / 10)) (i : Int) = some l[i] := by unfold at?; simp only [Int.toNat_natCast, s1]; simp
  rw [ref1_mulWide_l3, bnd_some', w64 (x := (i : Int) + 1) (by omega) (by omega), show (i : Int) + 1 = ((i + 1 : Nat) : Int) by omega, dec_lt hi1, ift_true, at_nat hi1, bnd_some', at_nat hi0, bnd_some', hdv, w64 (by omega) (by omega), show ((i + 1 : Nat) : Int).toNat = i + 1 by omega, at6, bnd_some', show ((i : Nat) : Int).toNat = i by omega, tmod10 b0]
  have hv : dval ((l.set (i + 1) (l[i + 1] + l[i] / 10)).set i (l[i] % 10)) = dval l := by
   have h1 := dval_set (c := l[i] % 10 - l[i]) s1
   rw [show l[i] + (l[i] % 10 - l[i]) = l[i] % 10 by omega, dval_set ei1] at h1
   rw [h1]
   simp only [p10]
   have : p10 i * (l[i] % 10 - l[i]) = -(p10 i * 10 * (l[i] / 10)) := by
    rw [Int.mul_assoc, ← Int.mul_neg]; congr 1; omega
   omega
  have p1 : ∀ e ∈ (l.set (i + 1) (l[i + 1] + l[i] / 10)).set i (l[i] % 10), 0 ≤ e := by
   intro e he
   rcases List.mem_or_eq_of_mem_set he with h1 | h1
   ·rcases List.mem_or_eq_of_mem_set h1 with h2 | h2
    ·exact h0 e h2
    ·omega
   ·omega
  have p2 : digs (((l.set (i + 1) (l[i + 1] + l[i] / 10)).set i (l[i] % 10)).take (i + 1)) := by
   intro d hdm
   rw [List.take_succ_eq_append_getElem (by simpa using hi0)] at hdm
   rcases List.mem_append.1 hdm with h1 | h1
   ·rw [List.take_set_of_le (by omega), List.take_set_of_le (by omega)] at h1
    exact hd d h1
   ·simp at h1; subst h1; omega
  have p3 : ∀ e, ((l.set (i + 1) (l[i + 1] + l[i] / 10)).set i (l[i] % 10))[i + 1]? = some e → e ≤ 100000000 := by
   intro e he
   rw [List.getElem?_set_ne (by omega), List.getElem?_set_self hi1] at he
   have := Option.some.inj he; omega
  have p4 : ∀ e ∈ ((l.set (i + 1) (l[i + 1] + l[i] / 10)).set i (l[i] % 10)).drop (i + 1 + 1), e ≤ 50000000 := by
   intro e he
   rw [List.drop_set_of_lt (by omega), List.drop_set_of_lt (by omega)] at he
   refine hB e ?_
   rw [List.drop_eq_getElem_cons hi1]
   exact List.mem_cons_of_mem _ he
  obtain ⟨l', k1, k2, k3, k4, k5⟩ := ih f (i + 1) ((l.set (i + 1) (l[i + 1] + l[i] / 10)).set i (l[i] % 10)) (by simp; omega) (by omega) (by simpa using hl) p1 p2 p3 p4
  exact ⟨l', k1, by simpa using k2, k3, by simpa using k4, by rw [k5, hv]⟩

theorem sg_mul (s t : Bool) (a b : Int) : sg (!(s == t)) (a * b) = sg s a * sg t b := by
 unfold sg; cases s <;> cases t <;> simp [Int.neg_mul, Int.mul_neg]

theorem rmul {a b : RWide} {x y : Int} {N M : Nat} (ha : RWn a x N) (hb : RWn b y M) (hN : N < 400) (hM : M < 400) : ∃ w, ref1_mulWide a b = some w ∧ RWn w (x * y) (N + M + 1) := by
 have hla := ha.l
 have hlb := hb.l
 unfold ref1_mulWide
 rw [w64 (x := (a.d.length : Int) + (b.d.length : Int)) (by omega) (by omega), w64 (by omega) (by omega), bnd_some', grd_pos (by omega), show ((a.d.length : Int) + (b.d.length : Int) + 1).toNat = a.d.length + b.d.length + 1 by omega]
 obtain ⟨l, h1, h2, h3, h4⟩ := mul_outer ha.d hb.d (by omega) (by omega) a.d.length BIG 0 (List.replicate (a.d.length + b.d.length + 1) 0) 0 (by omega) (by rw [big_val]; omega) (by simp) (by omega) (fun e he => by have := List.eq_of_mem_replicate he; omega) (by omega)
 rw [show ((0 : Nat) : Int) = 0 from rfl] at h1
 rw [h1]
 unfold ref1_mulWide_j2
 have hl : l.length = a.d.length + b.d.length + 1 := by simpa using h2
 have hB : ∀ e ∈ l, 0 ≤ e ∧ e ≤ 50000000 := fun e he => by have := h3 e he; omega
 obtain ⟨l', g1, g2, g3, g4, g5⟩ := mul_carry (a := a) (b := b) (a.d.length + b.d.length) BIG 0 l (by omega) (by rw [big_val]; omega) (by omega) (fun e he => (hB e he).1) (by simp [digs]) (fun e he => by have := hB e (List.mem_of_getElem? he); omega) (fun e he => (hB e (List.mem_of_mem_drop he)).2)
 rw [show ((0 : Nat) : Int) = 0 from rfl] at g1
 rw [g1]
 unfold ref1_mulWide_j3
 have hv : dval l' = dval a.d * dval b.d := by
  rw [g5, h4, dval_zeros]; simp [p10]
 have hd : digs l' := by
  have hne : a.d.length + b.d.length < l'.length := by omega
  have e : l' = l'.take (a.d.length + b.d.length) ++ [l'[a.d.length + b.d.length]] := by
   rw [← List.take_succ_eq_append_getElem hne, List.take_of_length_le (by omega)]
  rw [hl, show a.d.length + b.d.length + 1 - 1 = a.d.length + b.d.length by omega] at g4
  have p1 := dval_lt ha.d
  have p2 := dval_lt hb.d
  have n1 := dval_nonneg ha.d
  have n2 := dval_nonneg hb.d
  have hlt : dval a.d * dval b.d < p10 (a.d.length + b.d.length) := by
   rw [p10_add]
   have q1 : dval a.d * dval b.d ≤ p10 a.d.length * dval b.d := Int.mul_le_mul_of_nonneg_right (by omega) n2
   have q2 : p10 a.d.length * dval b.d < p10 a.d.length * p10 b.d.length := Int.mul_lt_mul_of_pos_left p2 (p10n _)
   omega
  have hlast := g3 l'[a.d.length + b.d.length] (List.getElem_mem hne)
  have hval := dval_append (l'.take (a.d.length + b.d.length)) [l'[a.d.length + b.d.length]]
  rw [← e, List.length_take, Nat.min_eq_left (by omega), hv] at hval
  simp only [dval, Int.mul_zero, Int.add_zero] at hval
  have n3 := dval_nonneg g4
  have hz : l'[a.d.length + b.d.length] = 0 := by
   apply Classical.byContradiction
   intro hc
   have : p10 (a.d.length + b.d.length) * 1 ≤ p10 (a.d.length + b.d.length) * l'[a.d.length + b.d.length] := Int.mul_le_mul_of_nonneg_left (by omega) (Int.le_of_lt (p10n _))
   omega
  rw [e, hz]
  exact digs_snoc g4 (by omega) (by omega)
 obtain ⟨w, k1, k2⟩ := rcut (!(a.below == b.below)) l' (N + M + 1) (by omega) (by omega) hd
 rw [k1, bnd_some']
 refine ⟨w, rfl, ?_⟩
 have e : sg (!(a.below == b.below)) (dval l') = x * y := by rw [hv, sg_mul, ← ha.v, ← hb.v]
 rw [← e]; exact k2

/-! ### quotients -/

def zeroV : GValue := ⟨0, 0, 0, ByteArray.empty, []⟩

end Go.Proofs.YtmaemlebpjnmoaaGreatDoor
namespace Go.Proofs.YtmaemlebpjnmoaaGreatDoor
open Go Go.SX Go.SX.Cal Go.Lib
set_option linter.unusedVariables false
set_option linter.unusedSimpArgs false

end Go.Proofs.YtmaemlebpjnmoaaGreatDoor
namespace Go.Proofs.YtmaemlebpjnmoaaGreatDoor
open Go Go.SX Go.SX.Cal Go.Lib
set_option linter.unusedVariables false
set_option linter.unusedSimpArgs false

def beN : Nat → Nat → List Int
 | 0, _ => []
 | k + 1, N => beN k (N / 256) ++ [((N % 256 : Nat) : Int)]

theorem beN_len : ∀ k N, (beN k N).length = k
 | 0, N => rfl
 | k + 1, N => by simp [beN, beN_len k]

theorem beN_add (a : Nat) : ∀ b N, beN (a + b) N = beN a (N / 256 ^ b) ++ beN b N
 | 0, N => by simp [beN]
 | b + 1, N => by
  rw [← Nat.add_assoc]
  simp only [beN]
  rw [beN_add a b (N / 256), List.append_assoc, Nat.div_div_eq_div_mul, Nat.pow_succ, Nat.mul_comm 256]

theorem beN8 (N : Nat) : beN 8 N = [((N / 72057594037927936 % 256 : Nat) : Int), ((N / 281474976710656 % 256 : Nat) : Int), ((N / 1099511627776 % 256 : Nat) : Int), ((N / 4294967296 % 256 : Nat) : Int), ((N / 16777216 % 256 : Nat) : Int), ((N / 65536 % 256 : Nat) : Int), ((N / 256 % 256 : Nat) : Int), ((N % 256 : Nat) : Int)] := by
 simp only [beN, Nat.div_div_eq_div_mul, List.nil_append, List.cons_append]

theorem beN8_mod (N : Nat) : beN 8 (N % 18446744073709551616) = beN 8 N := by
 rw [beN8, beN8]
 congr 1
 ·congr 1; omega
 congr 1
 ·congr 1; omega
 congr 1
 ·congr 1; omega
 congr 1
 ·congr 1; omega
 congr 1
 ·congr 1; omega
 congr 1
 ·congr 1; omega
 congr 1
 ·congr 1; omega
 congr 1
 congr 1; omega

theorem sh8 (N s : Nat) (hs : s ≤ 64) : IntKind.u8.wrap (((N : Nat) : Int).fdiv (2 ^ s)) = ((N / 2 ^ s % 256 : Nat) : Int) := by
 rw [fd]
 have : ∀ x : Int, IntKind.u8.wrap x = x % 256 := by
  intro x; simp only [IntKind.wrap, IntKind.bits, IntKind.signed]; simp
 rw [this]
 generalize N / 2 ^ s = q
 omega

theorem vword (N : Nat) (b : List Int) (hb : b.length ≤ 4294967000) : value_word_s (N : Int) b = some ((), b ++ beN 8 N) := by
 unfold value_word_s
 have e56 : min (56 : Int).toNat (IntKind.u64).bits = 56 := rfl
 have e48 : min (48 : Int).toNat (IntKind.u64).bits = 48 := rfl
 have e40 : min (40 : Int).toNat (IntKind.u64).bits = 40 := rfl
 have e32 : min (32 : Int).toNat (IntKind.u64).bits = 32 := rfl
 have e24 : min (24 : Int).toNat (IntKind.u64).bits = 24 := rfl
 have e16 : min (16 : Int).toNat (IntKind.u64).bits = 16 := rfl
 have e8 : min (8 : Int).toNat (IntKind.u64).bits = 8 := rfl
 have e0 : min (0 : Int).toNat (IntKind.u64).bits = 0 := rfl
 simp only [e56, e48, e40, e32, e24, e16, e8, e0, bnd_some']
 rw [sh8 N 56 (by omega), sh8 N 48 (by omega), sh8 N 40 (by omega), sh8 N 32 (by omega), sh8 N 24 (by omega), sh8 N 16 (by omega), sh8 N 8 (by omega), sh8 N 0 (by omega)]
 rw [grd_pos (by omega), grd_pos (by simp; omega), grd_pos (by simp; omega), grd_pos (by simp; omega), grd_pos (by simp; omega), grd_pos (by simp; omega), grd_pos (by simp; omega), grd_pos (by simp; omega)]
 rw [beN8]
 simp

/-! ### bytes of the reference's integers -/

theorem fixed_inner (rec1 : List Int → Bool → List Int → Int → Option (List Int)) (l1 : List Int) (i : Nat) {d : List Int} (hd : digs d) (hl : d.length < 1000) : ∀ (m f : Nat) (q : List Int) (r : Int), m ≤ d.length → m < f → q.length = d.length → digs (q.drop m) → 0 ≤ r → r < 256 → dval (d.drop m) = 256 * dval (q.drop m) + r →
  ∃ q' r', ref1_fixed_l2 rec1 l1 d (i : Int) f q r ((m : Int) - 1) = ref1_fixed_j1 rec1 l1 (i : Int) q' r' ∧ q'.length = d.length ∧ digs q' ∧ 0 ≤ r' ∧ r' < 256 ∧ dval d = 256 * dval q' + r' := by
 intro m
 induction m with
 | zero =>
  intro f q r hm hf hq hdq r0 r1 hv
  obtain ⟨f, rfl⟩ : ∃ q, f = q + 1 := ⟨f - 1, by omega⟩
  rw [ref1_fixed_l2, show decide ((0 : Int) ≤ ((0 : Nat) : Int) - 1) = false from rfl, ift_false]
  simp only [List.drop_zero] at hdq hv
  exact ⟨q, r, rfl, hq, hdq, r0, r1, hv⟩
 | succ m ih =>
  intro f q r hm hf hq hdq r0 r1 hv
  obtain ⟨f, rfl⟩ : ∃ q, f = q + 1 := ⟨f - 1, by omega⟩
  have hmd : m < d.length := by omega
  have hmq : m < q.length := by omega
  have rd := hd d[m] (List.getElem_mem hmd)
  have e10 : IntKind.i64.wrap (10 * r) = 10 * r := w64 (by omega) (by omega)
  have en : IntKind.i64.wrap (10 * r + d[m]) = 10 * r + d[m] := w64 (by omega) (by omega)
  have ed : IntKind.i64.wrap ((10 * r + d[m]).tdiv 256) = (10 * r + d[m]) / 256 := by
   rw [Int.tdiv_eq_ediv_of_nonneg (by omega), w64 (by omega) (by omega)]
  have em : (10 * r + d[m]).tmod 256 = (10 * r + d[m]) % 256 := Int.tmod_eq_emod_of_nonneg (by omega)
  rw [ref1_fixed_l2, show ((m + 1 : Nat) : Int) - 1 = (m : Int) by omega, show decide ((0 : Int) ≤ (m : Int)) = true by simp, ift_true, at_nat hmd, bnd_some', e10, en, ed, em, bnd_some', bnd_some', at_nat hmq, bnd_some', w64 (x := (m : Int) - 1) (by omega) (by omega), Int.toNat_natCast]
  have hdrop : (q.set m ((10 * r + d[m]) / 256)).drop m = ((10 * r + d[m]) / 256) :: q.drop (m + 1) := by
   rw [List.drop_eq_getElem_cons (by simpa using hmq)]
   congr 1
   ·simp
   ·rw [List.drop_set_of_lt (by omega)]
  refine ih f _ _ (by omega) (by omega) (by simpa using hq) ?_ (by omega) (by omega) ?_
  ·rw [hdrop]; exact digs_cons hdq (by omega) (by omega)
  ·rw [hdrop, List.drop_eq_getElem_cons hmd]
   simp only [dval]
   rw [hv]
   omega

theorem wrap8 {x : Int} (h0 : 0 ≤ x) (h1 : x < 256) : IntKind.u8.wrap x = x := by
 simp only [IntKind.wrap, IntKind.bits, IntKind.signed]; simp; omega

theorem fixed_outer : ∀ (j f : Nat) (b : Bool) (d S : List Int) (N : Nat), j < 1000 → j < f → digs d → d.length < 900 → dval d = (N : Int) →
  ref1_fixed_l1 f (List.replicate j 0 ++ S) b d ((j : Int) - 1) = some (beN j N ++ S) := by
 intro j
 induction j with
 | zero =>
  intro f b d S N hj hf hd hl hv
  obtain ⟨f, rfl⟩ : ∃ q, f = q + 1 := ⟨f - 1, by omega⟩
  rw [ref1_fixed_l1, show decide ((0 : Int) ≤ ((0 : Nat) : Int) - 1) = false from rfl, ift_false]
  rfl
 | succ j ih =>
  intro f b d S N hj hf hd hl hv
  obtain ⟨f, rfl⟩ : ∃ q, f = q + 1 := ⟨f - 1, by omega⟩
  rw [ref1_fixed_l1, show ((j + 1 : Nat) : Int) - 1 = (j : Int) by omega, show decide ((0 : Int) ≤ (j : Int)) = true by simp, ift_true, grd_pos (by omega), w64 (by omega) (by omega), Int.toNat_natCast]
  obtain ⟨q', r', h1, h2, h3, h4, h5, h6⟩ := fixed_inner (ref1_fixed_l1 f) (List.replicate (j + 1) 0 ++ S) j hd (by omega) d.length BIG (List.replicate d.length 0) 0 (Nat.le_refl _) (by rw [big_val]; omega) (by simp) (by simp [digs]) (by omega) (by omega) (by simp [dval])
  rw [h1]
  unfold ref1_fixed_j1
  have hlt : j < (List.replicate (j + 1) (0 : Int) ++ S).length := by simp; omega
  obtain ⟨d', g1, g2, g3, g4, g5⟩ := cut_eq false q' (by omega) h3
  rw [at_nat hlt, bnd_some', g1, bnd_some', wrap8 h4 h5, w64 (by omega) (by omega), Int.toNat_natCast]
  have hset : (List.replicate (j + 1) (0 : Int) ++ S).set j r' = List.replicate j 0 ++ (r' :: S) := by
   rw [List.replicate_succ', List.append_assoc, List.set_append_right _ _ (by simp)]
   simp
  have hr : r' = ((N % 256 : Nat) : Int) := by rw [hv] at h6; omega
  have hd' : dval d' = ((N / 256 : Nat) : Int) := by rw [g4]; rw [hv] at h6; omega
  rw [hset, ih f _ d' (r' :: S) (N / 256) (by omega) (by omega) g2 (by omega) hd']
  simp only [beN]
  rw [hr, List.append_assoc]; rfl

theorem rfixed {w : RWide} {z : Int} {N : Nat} (h : RWn w z N) (hN : N < 900) (hz : 0 ≤ z) (k : Nat) (hk : k < 1000) : ref1_fixed w (k : Int) = some (beN k z.toNat) := by
 have hl := h.l
 have ha := h.abs
 unfold ref1_fixed
 rw [grd_pos (by omega), w64 (by omega) (by omega), Int.toNat_natCast]
 have := fixed_outer k BIG w.below w.d [] z.toNat hk (by rw [big_val]; omega) h.d (by omega) (by omega)
 rw [List.append_nil, List.append_nil] at this
 exact this

theorem p40 : p10 40 = 10000000000000000000000000000000000000000 := by decide

theorem rhalf_loop (n : Nat) (hn : n ≤ 16) : ∀ (m f i : Nat) (b : Bool) (d : List Int), i + m = n → m < f → 1 ≤ i → RWn ⟨b, d⟩ ((128 * 256 ^ (i - 1) : Nat) : Int) 40 → ∃ w, ref1_half_l1 (n : Int) f b d (i : Int) = some w ∧ RWn w ((128 * 256 ^ (n - 1) : Nat) : Int) 40 := by
 intro m
 induction m with
 | zero =>
  intro f i b d hi hf h1 hA
  obtain ⟨f, rfl⟩ : ∃ q, f = q + 1 := ⟨f - 1, by omega⟩
  rw [ref1_half_l1, show decide ((i : Int) < (n : Int)) = false by simp; omega, ift_false]
  exact ⟨⟨b, d⟩, rfl, by rw [show n = i by omega]; exact hA⟩
 | succ m ih =>
  intro f i b d hi hf h1 hA
  obtain ⟨f, rfl⟩ : ∃ q, f = q + 1 := ⟨f - 1, by omega⟩
  obtain ⟨u, u1, u2⟩ := rwideOf 256 (by decide) (by decide)
  obtain ⟨v, v1, v2⟩ := rmul hA u2 (by omega) (by omega)
  rw [ref1_half_l1, show decide ((i : Int) < (n : Int)) = true by simp; omega, ift_true, u1, bnd_some', v1, bnd_some', w64 (by omega) (by omega), show (i : Int) + 1 = ((i + 1 : Nat) : Int) by omega]
  have e : ((128 * 256 ^ (i - 1) : Nat) : Int) * 256 = ((128 * 256 ^ (i + 1 - 1) : Nat) : Int) := by
   rw [show i + 1 - 1 = (i - 1) + 1 by omega, Nat.pow_succ, ← Nat.mul_assoc, Int.natCast_mul (128 * 256 ^ (i - 1)) 256]; rfl
  rw [e] at v2
  have hp : (256 : Nat) ^ (i + 1 - 1) ≤ 256 ^ 15 := Nat.pow_le_pow_right (by decide) (by omega)
  have hp2 : (256 : Nat) ^ 15 = 1329227995784915872903807060280344576 := by decide
  exact ih f (i + 1) v.below v.d (by omega) (by omega) (by omega) (v2.tight (by rw [p40]; omega))

theorem rhalf (n : Nat) (h1 : 1 ≤ n) (hn : n ≤ 16) : ∃ w, ref1_half (n : Int) = some w ∧ RWn w ((128 * 256 ^ (n - 1) : Nat) : Int) 40 := by
 unfold ref1_half
 obtain ⟨u, u1, u2⟩ := rwideOf 128 (by decide) (by decide)
 rw [u1, bnd_some']
 exact rhalf_loop n hn (n - 1) BIG 1 u.below u.d (by omega) (by rw [big_val]; omega) (Nat.le_refl _) (u2.mono (by omega))

/-! ### keys -/

mutual
def keyS : GValue → List Int
 | ⟨k, n, sc, s, it⟩ =>
  if k = 0 then [8]
  else if k = 1 then [IntKind.u8.wrap k, IntKind.u8.wrap n]
  else if k = 2 ∨ k = 5 then IntKind.u8.wrap k :: beN 8 (n + 9223372036854775808).toNat
  else if k = 3 then IntKind.u8.wrap k :: (beN 16 (n * p10 (12 - sc).toNat + 170141183460469231731687303715884105728).toNat ++ [IntKind.u8.wrap sc])
  else if k = 4 then IntKind.u8.wrap k :: (bytesL s ++ [0])
  else IntKind.u8.wrap k :: (keyL it ++ [0])
def keyL : List GValue → List Int
 | [] => []
 | x :: l => (1 :: keyS x) ++ keyL l
end

inductive Sn : GValue → Prop where
 | mk (v : GValue) (h : plainOk v = true) (hi : ∀ x ∈ v.items, Sn x) : Sn v

theorem Sn.pl {v : GValue} (h : Sn v) : plainOk v = true := by cases h; assumption
theorem Sn.it {v : GValue} (h : Sn v) : ∀ x ∈ v.items, Sn x := by cases h; assumption

theorem soundL_all {f : GValue → Int → Bool × Int} : ∀ {l : List GValue} {z : Int}, (soundL f l z).1 = true → ∀ x ∈ l, ∃ z', (f x z').1 = true
 | [], z, _, x, hx => by cases hx
 | v :: l, z, h, x, hx => by
  simp only [soundL] at h
  by_cases hv : (f v z).1 = true
  ·rw [if_pos hv] at h
   rcases List.mem_cons.1 hx with rfl | hx
   ·exact ⟨z, hv⟩
   ·exact soundL_all h x hx
  ·rw [if_neg hv] at h; cases h

theorem soundD_sn : ∀ (d : Nat) (v : GValue) (z : Int), (soundD d v z).1 = true → Sn v
 | 0, v, z, h => by simp [soundD] at h
 | d + 1, v, z, h => by
  simp only [soundD] at h
  by_cases hc : 256 < cnt v z ∨ plainOk v = false
  ·rw [if_pos hc] at h; cases h
  ·rw [if_neg hc] at h
   rw [not_or] at hc
   exact .mk v (by simpa using hc.2) (fun x hx => by
    obtain ⟨z', hz⟩ := soundL_all h x hx
    exact soundD_sn d x z' hz)

theorem sn_of {v : GValue} (h : soundB v = true) : Sn v := soundD_sn 4 v 0 h

theorem plain_kind {v : GValue} (h : plainOk v = true) : (v.kind = 2 ∨ v.kind = 3 ∨ v.kind = 5 → v.n.natAbs < 1000000000000000000) ∧ (v.kind = 3 → 0 ≤ v.scale ∧ v.scale ≤ 12) ∧ 0 ≤ v.kind ∧ v.kind ≤ 7 := by
 unfold plainOk at h
 simp only at h
 by_cases h0 : v.kind = 0
 ·exact ⟨by omega, by omega, by omega, by omega⟩
 by_cases h1 : v.kind = 1
 ·exact ⟨by omega, by omega, by omega, by omega⟩
 by_cases h2 : v.kind = 2
 ·simp [h2] at h; exact ⟨by omega, by omega, by omega, by omega⟩
 by_cases h3 : v.kind = 3
 ·simp [h3] at h; exact ⟨by omega, by omega, by omega, by omega⟩
 by_cases h4 : v.kind = 4
 ·exact ⟨by omega, by omega, by omega, by omega⟩
 by_cases h5 : v.kind = 5
 ·simp [h5] at h; exact ⟨by omega, by omega, by omega, by omega⟩
 by_cases h6 : v.kind = 6
 ·exact ⟨by omega, by omega, by omega, by omega⟩
 by_cases h7 : v.kind = 7
 ·exact ⟨by omega, by omega, by omega, by omega⟩
 ·simp [h0, h1, h2, h3, h4, h5, h6, h7] at h

theorem bytesL_len (s : ByteArray) : (bytesL s).length = s.size := by
 unfold bytesL
 rw [List.length_map, Array.length_toList]; rfl

mutual
theorem keyS_len : ∀ v, (keyS v).length + 5 ≤ 30 * sizeV v
 | ⟨k, n, sc, s, it⟩ => by
  have h1 := keyL_len it
  have h3 := sizeL_len it
  have h2 := bytesL_len s
  simp only [keyS, sizeV]
  split
  ·simp; omega
  split
  ·simp; omega
  split
  ·simp [beN_len]; omega
  split
  ·simp [beN_len]; omega
  split
  ·simp; omega
  ·simp; omega
theorem keyL_len : ∀ l, (keyL l).length ≤ 30 * sizeL l
 | [] => by simp [keyL]
 | x :: l => by
  have h1 := keyS_len x
  have h2 := keyL_len l
  simp only [keyL, sizeL, List.length_append, List.length_cons]; omega
end

theorem w64u {x : Int} (h0 : 0 ≤ x) (h1 : x < 18446744073709551616) : IntKind.u64.wrap x = x := by rw [wu]; omega

theorem vshift (n : Int) (h0 : -9223372036854775808 ≤ n) (h1 : n ≤ 9223372036854775807) : IntKind.u64.wrap ((IntKind.u64.wrap n) + (9223372036854775808 : Int)) = (((n + 9223372036854775808).toNat : Nat) : Int) := by
 rw [wu, wu]; omega

theorem vbytes {s : Bool} {A : Nat} (hA : A < 1000000000000000000000000000000) (b : List Int) (hb : b.length ≤ 4294966000) : value_wide_bytes_s (mkW s A) b = some ((), b ++ beN 16 (sgv s A + 170141183460469231731687303715884105728).toNat) := by
 unfold value_wide_bytes_s
 have e1 : value_wide_times (mkW (decide ((1 : Int) < 0)) (Int.natAbs 1)) (9223372036854775808 : Int) = some (mkW false 9223372036854775808) := times_mk false 1 9223372036854775808 (by decide) (by decide) (by decide)
 have e2 : value_wide_times (mkW false 9223372036854775808) (9223372036854775808 : Int) = some (mkW false 85070591730234615865843651857942052864) := times_mk false 9223372036854775808 9223372036854775808 (by decide) (by decide) (by decide)
 have e3 : value_wide_times (mkW false 85070591730234615865843651857942052864) (2 : Int) = some (mkW false 170141183460469231731687303715884105728) := times_mk false 85070591730234615865843651857942052864 2 (by decide) (by decide) (by decide)
 obtain ⟨u, C, p1, p2, p3⟩ := plus_mk false s 170141183460469231731687303715884105728 A (by omega)
 rw [whole_mk 1 (by decide) (by decide), bnd_some', eta_w, e1, bnd_some', eta_w, e2, bnd_some', eta_w, e3, bnd_some', eta_w, eta_w, p1, bnd_some']
 have hs : sgv false 170141183460469231731687303715884105728 = 170141183460469231731687303715884105728 := rfl
 rw [hs] at p2
 have hsA : -1000000000000000000000000000000 < sgv s A ∧ sgv s A < 1000000000000000000000000000000 := by unfold sgv; split <;> omega
 have hu : u = false ∧ (C : Int) = sgv s A + 170141183460469231731687303715884105728 := by
  unfold sgv at p2 hsA ⊢
  cases u
  ·simp at p2; exact ⟨rfl, by omega⟩
  ·simp at p2; exfalso; omega
 obtain ⟨rfl, hC⟩ := hu
 have hCn : (sgv s A + 170141183460469231731687303715884105728).toNat = C := by omega
 rw [hCn, show (mkW false C).size.2.1 = ((wd C 1 : Nat) : Int) from rfl, show (mkW false C).size.1 = ((wd C 0 : Nat) : Int) from rfl, vword _ _ (by omega), bnd_some']
 simp only
 rw [vword _ _ (by rw [List.length_append, beN_len]; omega), bnd_some']
 simp only
 rw [List.append_assoc, show (16 : Nat) = 8 + 8 from rfl, beN_add 8 8, wd0, wd1, beN8_mod, beN8_mod, show (256 : Nat) ^ 8 = 18446744073709551616 from by decide]

theorem key_step (v : GValue) : keyS v = if v.kind = 0 then [8] else if v.kind = 1 then [IntKind.u8.wrap v.kind, IntKind.u8.wrap v.n] else if v.kind = 2 ∨ v.kind = 5 then IntKind.u8.wrap v.kind :: beN 8 (v.n + 9223372036854775808).toNat
  else if v.kind = 3 then IntKind.u8.wrap v.kind :: (beN 16 (v.n * p10 (12 - v.scale).toNat + 170141183460469231731687303715884105728).toNat ++ [IntKind.u8.wrap v.scale])
  else if v.kind = 4 then IntKind.u8.wrap v.kind :: (bytesL v.s ++ [0]) else IntKind.u8.wrap v.kind :: (keyL v.items ++ [0]) := by
 cases v; simp only [keyS]

theorem keyL_drop {l : List GValue} {i : Nat} (h : i < l.length) : keyL (l.drop i) = (1 :: keyS l[i]) ++ keyL (l.drop (i + 1)) := by
 rw [List.drop_eq_getElem_cons h]; simp only [keyL]

theorem vkey_loop (q : GValue → List Int → Option (Unit × List Int)) (v : GValue) (hl : sizeL v.items < 100000000) (hq : ∀ x ∈ v.items, ∀ b : List Int, b.length + 30 * sizeV x ≤ 4294960000 → q x b = some ((), b ++ keyS x)) : ∀ (m f i : Nat) (b : List Int), i + m = v.items.length → m < f → b.length + 30 * sizeL (v.items.drop i) + 10 ≤ 4294960000 →
  value_key_s_l1 q v f b (i : Int) = some ((), b ++ (keyL (v.items.drop i) ++ [0])) := by
 have hlen := sizeL_len v.items
 intro m
 induction m with
 | zero =>
  intro f i b hi hf hb
  obtain ⟨f, rfl⟩ : ∃ q, f = q + 1 := ⟨f - 1, by omega⟩
  rw [value_key_s_l1, show decide ((i : Int) < (v.items.length : Int)) = false by simp; omega, ift_false, List.drop_of_length_le (by omega)]
  unfold value_key_s_j2
  rw [grd_pos (by omega)]; rfl
 | succ m ih =>
  intro f i b hi hf hb
  obtain ⟨f, rfl⟩ : ∃ q, f = q + 1 := ⟨f - 1, by omega⟩
  have hil : i < v.items.length := by omega
  have hsz : sizeL (v.items.drop i) = sizeV v.items[i] + sizeL (v.items.drop (i + 1)) := by rw [List.drop_eq_getElem_cons hil]; simp only [sizeL]
  have hkl := keyS_len v.items[i]
  have hpos := sizeV_pos v.items[i]
  rw [value_key_s_l1, dec_lt hil, ift_true, at_nat hil, bnd_some', grd_pos (by omega), hq _ (List.getElem_mem hil) _ (by simp; omega), bnd_some', wrap_succ hil (by omega)]
  simp only
  rw [ih f (i + 1) _ (by omega) (by omega) (by simp; omega), keyL_drop hil]
  simp

theorem vkey : ∀ (k : Nat) (v : GValue) (b : List Int), Sn v → sizeV v < k → sizeV v < 100000000 → b.length + 30 * sizeV v ≤ 4294960000 → value_key_s k v b = some ((), b ++ keyS v) := by
 intro k
 induction k with
 | zero => intro v b _ h; omega
 | succ k ih =>
  intro v b hs hk hv hb
  obtain ⟨p1, p2, p3⟩ := plain_kind hs.pl
  have hpos := sizeV_pos v
  have hsz := sizeV_eq v
  have hbl := bytesL_len v.s
  rw [value_key_s, key_step]
  by_cases h0 : v.kind = 0
  ·rw [show (v.kind == 0) = true by simpa using h0, ift_true, grd_pos (by omega), if_pos h0]
  rw [show (v.kind == 0) = false by simpa using h0, ift_false, if_neg h0, grd_pos (by omega)]
  by_cases h1 : v.kind = 1
  ·rw [show (v.kind == 1) = true by simpa using h1, ift_true, grd_pos (by simp; omega), if_pos h1]
   simp
  rw [show (v.kind == 1) = false by simpa using h1, ift_false, if_neg h1]
  have j25 : v.kind = 2 ∨ v.kind = 5 → value_key_s_j1 (value_key_s k) v b true = some ((), b ++ (IntKind.u8.wrap v.kind :: beN 8 (v.n + 9223372036854775808).toNat)) := by
   intro h25
   have hn := p1 (by omega)
   unfold value_key_s_j1
   rw [ift_true, vshift v.n (by omega) (by omega), bnd_some', vword _ _ (by simp; omega), bnd_some']
   simp
  have jno : v.kind ≠ 2 → v.kind ≠ 5 → value_key_s_j1 (value_key_s k) v b false = some ((), b ++ (if v.kind = 3 then IntKind.u8.wrap v.kind :: (beN 16 (v.n * p10 (12 - v.scale).toNat + 170141183460469231731687303715884105728).toNat ++ [IntKind.u8.wrap v.scale])
    else if v.kind = 4 then IntKind.u8.wrap v.kind :: (bytesL v.s ++ [0]) else IntKind.u8.wrap v.kind :: (keyL v.items ++ [0]))) := by
   intro h2 h5
   unfold value_key_s_j1
   rw [ift_false]
   by_cases h3 : v.kind = 3
   ·have hn := p1 (by omega)
    obtain ⟨s0, s12⟩ := p2 h3
    obtain ⟨d, hd⟩ : ∃ d : Nat, 12 - v.scale = (d : Int) := ⟨(12 - v.scale).toNat, by omega⟩
    have hpd : (10 : Nat) ^ d ≤ 10 ^ 12 := Nat.pow_le_pow_right (by decide) (by omega)
    have hA : v.n.natAbs * 10 ^ d ≤ 999999999999999999 * 10 ^ 12 := Nat.mul_le_mul (by omega) hpd
    have hA' : v.n.natAbs * 10 ^ d < 1000000000000000000000000000000 := Nat.lt_of_le_of_lt hA (by decide)
    rw [show (v.kind == 3) = true by simpa using h3, ift_true, if_pos h3, w64 (by omega) (by omega), hd, scaled_mk v.n d (by omega) (by omega) (by omega) (Nat.lt_trans hA' (by decide)), bnd_some', eta_w, vbytes hA' _ (by simp; omega), bnd_some']
    simp only
    have hsg : sgv (decide (v.n < 0)) (v.n.natAbs * 10 ^ d) = v.n * p10 d := by
     unfold sgv
     rw [p10_pow, Int.natCast_mul]
     by_cases h : v.n < 0
     ·rw [if_pos (by simpa using h), show ((v.n.natAbs : Nat) : Int) = -v.n by omega, Int.neg_mul, Int.neg_neg]
     ·rw [if_neg (by simpa using h), show ((v.n.natAbs : Nat) : Int) = v.n by omega]
    rw [grd_pos (by simp [beN_len]; omega), hsg, Int.toNat_natCast]
    simp
   rw [show (v.kind == 3) = false by simpa using h3, ift_false, if_neg h3]
   by_cases h4 : v.kind = 4
   ·rw [show (v.kind == 4) = true by simpa using h4, ift_true, if_pos h4, grd_pos (by simp; omega), grd_pos (by simp; omega)]
    simp
   rw [show (v.kind == 4) = false by simpa using h4, ift_false, if_neg h4]
   have hq : ∀ x ∈ v.items, ∀ b : List Int, b.length + 30 * sizeV x ≤ 4294960000 → value_key_s k x b = some ((), b ++ keyS x) := fun x hx b hb => by
    have := sizeL_mem hx
    exact ih x b (hs.it x hx) (by omega) (by omega) hb
   have := vkey_loop (value_key_s k) v (by omega) hq v.items.length BIG 0 (b ++ [IntKind.u8.wrap v.kind]) (by omega) (by have := sizeL_len v.items; rw [big_val]; omega) (by simp; omega)
   rw [show ((0 : Nat) : Int) = 0 from rfl, List.drop_zero] at this
   rw [this]; simp
  by_cases h2 : v.kind = 2
  ·rw [show (v.kind == 2) = true by simpa using h2, ift_true, j25 (.inl h2), if_pos (.inl h2)]
  rw [show (v.kind == 2) = false by simpa using h2, ift_false]
  by_cases h5 : v.kind = 5
  ·rw [show (v.kind == 5) = true by simpa using h5, j25 (.inr h5), if_pos (.inr h5)]
  rw [show (v.kind == 5) = false by simpa using h5, jno h2 h5, if_neg (show ¬ (v.kind = 2 ∨ v.kind = 5) by omega)]

theorem rkey_loop (q : GValue → Option (List Int)) (v : GValue) (hl : sizeL v.items < 100000000) (hq : ∀ x ∈ v.items, q x = some (keyS x)) : ∀ (m f i : Nat) (b : List Int), i + m = v.items.length → m < f → b.length + 30 * sizeL (v.items.drop i) + 10 ≤ 4294960000 →
  ref1_key_l1 q v f b (i : Int) = some (b ++ (keyL (v.items.drop i) ++ [0])) := by
 have hlen := sizeL_len v.items
 intro m
 induction m with
 | zero =>
  intro f i b hi hf hb
  obtain ⟨f, rfl⟩ : ∃ q, f = q + 1 := ⟨f - 1, by omega⟩
  rw [ref1_key_l1, show decide ((i : Int) < (v.items.length : Int)) = false by simp; omega, ift_false, List.drop_of_length_le (by omega)]
  unfold ref1_key_j2 ref1_key_j3
  rw [grd_pos (by omega)]; rfl
 | succ m ih =>
  intro f i b hi hf hb
  obtain ⟨f, rfl⟩ : ∃ q, f = q + 1 := ⟨f - 1, by omega⟩
  have hil : i < v.items.length := by omega
  have hsz : sizeL (v.items.drop i) = sizeV v.items[i] + sizeL (v.items.drop (i + 1)) := by rw [List.drop_eq_getElem_cons hil]; simp only [sizeL]
  have hkl := keyS_len v.items[i]
  have hpos := sizeV_pos v.items[i]
  rw [ref1_key_l1, dec_lt hil, ift_true, grd_pos (by omega), at_nat hil, bnd_some', hq _ (List.getElem_mem hil), bnd_some', grd_pos (by simp; omega), wrap_succ hil (by omega)]
  rw [ih f (i + 1) _ (by omega) (by omega) (by simp; omega), keyL_drop hil]
  simp

theorem rkey : ∀ (k : Nat) (v : GValue), Sn v → sizeV v < k → sizeV v < 100000000 → ref1_key k v = some (keyS v) := by
 intro k
 induction k with
 | zero => intro v _ h; omega
 | succ k ih =>
  intro v hs hk hv
  obtain ⟨p1, p2, p3⟩ := plain_kind hs.pl
  have hpos := sizeV_pos v
  have hsz := sizeV_eq v
  have hbl := bytesL_len v.s
  rw [ref1_key, key_step]
  by_cases h0 : v.kind = 0
  ·rw [show (v.kind == 0) = true by simpa using h0, ift_true, if_pos h0]
  rw [show (v.kind == 0) = false by simpa using h0, ift_false, if_neg h0]
  by_cases h1 : v.kind = 1
  ·rw [show (v.kind == 1) = true by simpa using h1, ift_true, grd_pos (by simp), if_pos h1]; rfl
  rw [show (v.kind == 1) = false by simpa using h1, ift_false, if_neg h1]
  have j25 : v.kind = 2 ∨ v.kind = 5 → ref1_key_j1 (ref1_key k) v true = some (IntKind.u8.wrap v.kind :: beN 8 (v.n + 9223372036854775808).toNat) := by
   intro h25
   have hn := p1 (by omega)
   unfold ref1_key_j1 ref1_key_j3
   obtain ⟨a, a1, a2⟩ := rwideOf v.n (by omega) (by omega)
   obtain ⟨h, hh1, hh2⟩ := rhalf 8 (by decide) (by decide)
   obtain ⟨c, c1, c2⟩ := radd a2 hh2 (by omega) (by omega)
   have e : ((128 * 256 ^ (8 - 1) : Nat) : Int) = 9223372036854775808 := by decide
   rw [e] at c2
   have hf := rfixed c2 (by omega) (by omega) 8 (by omega)
   rw [ift_true, a1, bnd_some', show ((8 : Int)) = ((8 : Nat) : Int) from rfl, hh1, bnd_some', c1, bnd_some', hf, bnd_some', grd_pos (by simp [beN_len])]; rfl
  have jno : v.kind ≠ 2 → v.kind ≠ 5 → ref1_key_j1 (ref1_key k) v false = some (if v.kind = 3 then IntKind.u8.wrap v.kind :: (beN 16 (v.n * p10 (12 - v.scale).toNat + 170141183460469231731687303715884105728).toNat ++ [IntKind.u8.wrap v.scale])
    else if v.kind = 4 then IntKind.u8.wrap v.kind :: (bytesL v.s ++ [0]) else IntKind.u8.wrap v.kind :: (keyL v.items ++ [0])) := by
   intro h2 h5
   unfold ref1_key_j1 ref1_key_j3
   rw [ift_false]
   by_cases h3 : v.kind = 3
   ·have hn := p1 (by omega)
    obtain ⟨s0, s12⟩ := p2 h3
    obtain ⟨d, hd⟩ : ∃ d : Nat, 12 - v.scale = (d : Int) := ⟨(12 - v.scale).toNat, by omega⟩
    obtain ⟨a, a1, a2⟩ := rwideOf v.n (by omega) (by omega)
    obtain ⟨t, t1, t2⟩ := rtens a2 (k := d) (by omega) (by omega)
    obtain ⟨h, hh1, hh2⟩ := rhalf 16 (by decide) (by decide)
    obtain ⟨c, c1, c2⟩ := radd t2 hh2 (by omega) (by omega)
    have e : ((128 * 256 ^ (16 - 1) : Nat) : Int) = 170141183460469231731687303715884105728 := by decide
    rw [e] at c2
    have hp12 := p10_mono (show d ≤ 12 by omega)
    have hp0 := p10n d
    have e12 : p10 12 = 1000000000000 := by decide
    have hz : 0 ≤ v.n * p10 d + 170141183460469231731687303715884105728 := by
     have hb1 : -(1000000000000000000 * p10 d) ≤ v.n * p10 d := by
      rw [← Int.neg_mul]
      exact Int.mul_le_mul_of_nonneg_right (by omega) (by omega)
     omega
    have hf := rfixed c2 (by omega) hz 16 (by omega)
    unfold ref1_twelve
    rw [show (v.kind == 3) = true by simpa using h3, ift_true, if_pos h3, a1, bnd_some', w64 (by omega) (by omega), hd, t1, bnd_some', bnd_some', show ((16 : Int)) = ((16 : Nat) : Int) from rfl, hh1, bnd_some', c1, bnd_some', hf, bnd_some', grd_pos (by simp [beN_len]), grd_pos (by simp [beN_len]), Int.toNat_natCast]
    simp
   rw [show (v.kind == 3) = false by simpa using h3, ift_false, if_neg h3]
   by_cases h4 : v.kind = 4
   ·rw [show (v.kind == 4) = true by simpa using h4, ift_true, if_pos h4, grd_pos (by simp; omega), grd_pos (by simp; omega)]
    simp
   rw [show (v.kind == 4) = false by simpa using h4, ift_false, if_neg h4]
   have hq : ∀ x ∈ v.items, ref1_key k x = some (keyS x) := fun x hx => by
    have := sizeL_mem hx
    exact ih x (hs.it x hx) (by omega) (by omega)
   have := rkey_loop (ref1_key k) v (by omega) hq v.items.length BIG 0 [IntKind.u8.wrap v.kind] (by omega) (by have := sizeL_len v.items; rw [big_val]; omega) (by simp; omega)
   rw [show ((0 : Nat) : Int) = 0 from rfl, List.drop_zero] at this
   rw [this]; simp
  by_cases h2 : v.kind = 2
  ·rw [show (v.kind == 2) = true by simpa using h2, ift_true, j25 (.inl h2), if_pos (.inl h2)]
  rw [show (v.kind == 2) = false by simpa using h2, ift_false]
  by_cases h5 : v.kind = 5
  ·rw [show (v.kind == 5) = true by simpa using h5, j25 (.inr h5), if_pos (.inr h5)]
  rw [show (v.kind == 5) = false by simpa using h5, jno h2 h5, if_neg (show ¬ (v.kind = 2 ∨ v.kind = 5) by omega)]

/-! ### keys of lists -/

def unS (l : List GValue) (i : Nat) : Bool := !soundB (l.getD i zeroV)

theorem unS_at {l : List GValue} {i : Nat} (h : i < l.length) : unS l i = !soundB l[i] := by unfold unS; simp [List.getD, List.getElem?_eq_getElem h]

def keyAll : List GValue → List Int
 | [] => []
 | x :: l => keyS x ++ keyAll l

def keyR (l : List GValue) : List Int := if (first (unS l) 0 l.length).isSome = true then [] else keyAll l

theorem keyAll_drop {l : List GValue} {i : Nat} (h : i < l.length) : keyAll (l.drop i) = keyS l[i] ++ keyAll (l.drop (i + 1)) := by
 rw [List.drop_eq_getElem_cons h]; simp only [keyAll]

theorem drop_size {l : List GValue} {i : Nat} (h : i < l.length) : sizeL (l.drop i) = sizeV l[i] + sizeL (l.drop (i + 1)) := by rw [List.drop_eq_getElem_cons h]; simp only [sizeL]

theorem vKey1 (l : List GValue) (hl : sizeL l < 100000000) : slices_ContainsFunc_api_Value_api_Value_of_value_Key_1 l = some (first (unS l) 0 l.length).isSome := by
 have hlen := sizeL_len l
 unfold slices_ContainsFunc_api_Value_api_Value_of_value_Key_1 slices_IndexFunc_api_Value_api_Value_of_value_Key_1
 have h := search (f := fun k i => slices_IndexFunc_api_Value_api_Value_of_value_Key_1_l1 l k (i : Int)) (n := l.length) (P := unS l) (A := fun i => some (i : Int)) (B := some (-1))
  (fun k i hi => by
   have := sizeL_mem (List.getElem_mem hi)
   show slices_IndexFunc_api_Value_api_Value_of_value_Key_1_l1 l (k + 1) (i : Int) = _
   rw [slices_IndexFunc_api_Value_api_Value_of_value_Key_1_l1]
   unfold value_Key_1
   rw [dec_lt hi, ift_true, at_nat hi, bnd_some', vSound _ (by omega), bnd_some', bnd_some', unS_at hi, wrap_succ hi (by omega), ift_ite])
  (fun k => by
   show slices_IndexFunc_api_Value_api_Value_of_value_Key_1_l1 l (k + 1) (l.length : Int) = _
   rw [slices_IndexFunc_api_Value_api_Value_of_value_Key_1_l1, show decide ((l.length : Int) < (l.length : Int)) = false by simp, ift_false]; rfl)
  BIG 0 (by omega) (by rw [big_val]; omega)
 have h' : slices_IndexFunc_api_Value_api_Value_of_value_Key_1_l1 l BIG 0 = (first (unS l) 0 l.length).elim (some (-1)) (fun i => some (i : Int)) := h
 rw [h']
 cases first (unS l) 0 l.length with
 | none => rfl
 | some i => simp [Option.elim, bnd_some']

theorem vKey_loop {l : List GValue} (hl : sizeL l < 100000000) (hs : ∀ x ∈ l, Sn x) : ∀ (m f i : Nat) (b : List Int), i + m = l.length → m < f → b.length + 30 * sizeL (l.drop i) ≤ 4294960000 → value_Key_l1 l f b (i : Int) = some (b ++ keyAll (l.drop i)) := by
 have hlen := sizeL_len l
 intro m
 induction m with
 | zero =>
  intro f i b hi hf hb
  obtain ⟨f, rfl⟩ : ∃ q, f = q + 1 := ⟨f - 1, by omega⟩
  rw [value_Key_l1, show decide ((i : Int) < (l.length : Int)) = false by simp; omega, ift_false, List.drop_of_length_le (by omega)]
  unfold value_Key_j1 slices_Clip_byte_byte
  rw [grd_pos (by omega)]
  simp [bnd_some', keyAll]
 | succ m ih =>
  intro f i b hi hf hb
  obtain ⟨f, rfl⟩ : ∃ q, f = q + 1 := ⟨f - 1, by omega⟩
  have hil : i < l.length := by omega
  have hsz := drop_size hil
  have hkl := keyS_len l[i]
  have := sizeL_mem (List.getElem_mem hil)
  rw [value_Key_l1, dec_lt hil, ift_true, at_nat hil, bnd_some', vkey BIG _ _ (hs _ (List.getElem_mem hil)) (by rw [big_val]; omega) (by omega) (by omega), bnd_some', wrap_succ hil (by omega)]
  simp only
  rw [ih f (i + 1) _ (by omega) (by omega) (by simp; omega), keyAll_drop hil, List.append_assoc]

theorem rKey_loop {l : List GValue} (hl : sizeL l < 100000000) : ∀ (m f i : Nat) (b : List Int), i + m = l.length → m < f → b.length + 30 * sizeL (l.drop i) ≤ 4294960000 → ref1_Key_l1 l f b (i : Int) = some (if (first (unS l) i l.length).isSome = true then [] else b ++ keyAll (l.drop i)) := by
 have hlen := sizeL_len l
 intro m
 induction m with
 | zero =>
  intro f i b hi hf hb
  obtain ⟨f, rfl⟩ : ∃ q, f = q + 1 := ⟨f - 1, by omega⟩
  have : i = l.length := by omega
  subst this
  rw [ref1_Key_l1, show decide ((l.length : Int) < (l.length : Int)) = false by simp, ift_false, first_end, List.drop_length]
  simp [keyAll, ref1_Key_j1]
 | succ m ih =>
  intro f i b hi hf hb
  obtain ⟨f, rfl⟩ : ∃ q, f = q + 1 := ⟨f - 1, by omega⟩
  have hil : i < l.length := by omega
  have hsz := drop_size hil
  have hkl := keyS_len l[i]
  have := sizeL_mem (List.getElem_mem hil)
  rw [ref1_Key_l1, dec_lt hil, ift_true, at_nat hil, bnd_some', rSound _ (by omega), bnd_some', first_step hil, unS_at hil]
  cases hs : soundB l[i]
  ·rw [Bool.not_false, ift_true]; simp
  ·rw [Bool.not_true, ift_false, rkey BIG _ (sn_of hs) (by rw [big_val]; omega) (by omega), bnd_some', grd_pos (by omega), wrap_succ hil (by omega)]
   rw [ih f (i + 1) _ (by omega) (by omega) (by simp; omega), keyAll_drop hil, List.append_assoc]
   simp

theorem vKey (l : List GValue) (hl : sizeL l < 100000000) : value_Key l = some (keyR l) := by
 have hlen := sizeL_len l
 unfold value_Key keyR
 rw [vKey1 l hl, bnd_some']
 cases hf : first (unS l) 0 l.length with
 | some i => rfl
 | none =>
  have hg := first_none.1 hf
  have hs : ∀ x ∈ l, Sn x := fun x hx => by
   obtain ⟨i, hi, rfl⟩ := List.getElem_of_mem hx
   have := hg i (Nat.zero_le _) hi
   rw [unS_at hi] at this
   exact sn_of (by simpa using this)
  have := vKey_loop hl hs l.length BIG 0 [] (by omega) (by rw [big_val]; omega) (by simp; omega)
  rw [List.drop_zero, List.nil_append] at this
  simp only [Option.isSome_none, ift_false, Bool.false_eq_true, if_false]
  exact this

theorem rKey (l : List GValue) (hl : sizeL l < 100000000) : ref1_Key l = some (keyR l) := by
 have hlen := sizeL_len l
 unfold ref1_Key keyR
 have := rKey_loop hl l.length BIG 0 [] (by omega) (by rw [big_val]; omega) (by simp; omega)
 rw [List.drop_zero, List.nil_append] at this
 exact this

theorem keyAll_len : ∀ l, (keyAll l).length ≤ 30 * sizeL l
 | [] => by simp [keyAll]
 | x :: l => by
  have := keyS_len x
  have := keyAll_len l
  simp only [keyAll, sizeL, List.length_append]; omega

theorem keyR_len (l : List GValue) : (keyR l).length ≤ 30 * sizeL l := by
 unfold keyR
 split
 ·simp
 ·exact keyAll_len l

theorem hashes (b : List Int) (hb : b.length < 1000000000) : ∀ (m f i : Nat) (x : Int), i + m = b.length → m < f → ∃ h, value_HashBytes_l1 b f x (i : Int) = some h ∧ ref1_Fnv_l1 b f x (i : Int) = some h := by
 intro m
 induction m with
 | zero =>
  intro f i x hi hf
  obtain ⟨f, rfl⟩ : ∃ q, f = q + 1 := ⟨f - 1, by omega⟩
  rw [value_HashBytes_l1, ref1_Fnv_l1, show decide ((i : Int) < (b.length : Int)) = false by simp; omega, ift_false, ift_false]
  exact ⟨x, rfl, rfl⟩
 | succ m ih =>
  intro f i x hi hf
  obtain ⟨f, rfl⟩ : ∃ q, f = q + 1 := ⟨f - 1, by omega⟩
  have hil : i < b.length := by omega
  rw [value_HashBytes_l1, ref1_Fnv_l1, dec_lt hil, ift_true, ift_true, at_nat hil]
  simp only [bnd_some']
  rw [wrap_succ hil hb]
  exact ih f (i + 1) _ (by omega) (by omega)

theorem hash_eq (v : GValue) (hv : sizeV v < 10000000) : ∃ h, value_Hash v = some h ∧ ref1_Hash v = some h := by
 have hl : sizeL [v] < 100000000 := by simp only [sizeL]; omega
 have hk := keyR_len [v]
 simp only [sizeL] at hk
 obtain ⟨h, h1, h2⟩ := hashes (keyR [v]) (by omega) (keyR [v]).length BIG 0 14695981039346656037 (by omega) (by rw [big_val]; omega)
 refine ⟨h, ?_, ?_⟩
 ·unfold value_Hash value_HashBytes
  rw [vKey _ hl, bnd_some', show ((0 : Int)) = ((0 : Nat) : Int) from rfl, h1]; rfl
 ·unfold ref1_Hash ref1_Fnv
  rw [rKey _ hl, bnd_some', show ((0 : Int)) = ((0 : Nat) : Int) from rfl, h2]; rfl

end Go.Proofs.YtmaemlebpjnmoaaGreatDoor
namespace Go.Proofs.YtmaemlebpjnmoaaGreatDoor
open Go Go.SX Go.SX.Cal Go.Lib
set_option linter.unusedVariables false
set_option linter.unusedSimpArgs false

def small (b : Nat) : Bool := decide (97 ≤ b) && decide (b ≤ 122)
def other (b : Nat) : Bool := b == 95 || (decide (48 ≤ b) && decide (b ≤ 57))
def good (b : Nat) : Bool := small b || other b

theorem name1_eq (n : Nat) : value_Name_1 (Int.ofNat n) = some (!good n) := by
 unfold value_Name_1 value_Name_1_j1
 simp only [ift_ite, decide_eq_true_eq, Int.ofNat_eq_natCast]
 repeat' split
 all_goals (rw [Option.some.injEq, Bool.eq_iff_iff]; simp [good, small, other]; omega)

def bad (s : ByteArray) (i : Nat) : Bool := !good (byt s i)

theorem indexFunc_eq (s : ByteArray) : ∀ k i, i ≤ s.size → s.size - i < k → ∃ r, strings_indexFunc_of_value_Name_1_l1 s true k i = some r ∧ (decide (0 ≤ r) = (first (bad s) i s.size).isSome) := by
 intro k
 induction k with
 | zero => intro i _ h; omega
 | succ k ih =>
  intro i hi hk
  rw [strings_indexFunc_of_value_Name_1_l1]
  by_cases h : i = s.size
  ·subst h
   rw [first_end]
   simp only [Nat.lt_irrefl, decide_false, ift_false]
   exact ⟨-1, rfl, rfl⟩
  ·have hlt : i < s.size := by omega
   simp only [hlt, decide_true, ift_true, name1_eq, bnd_eq]
   rw [first_step hlt]
   by_cases hb : byt s i < 128
   ·rw [decode_lo s i hlt hb]
    simp only [bad]
    by_cases hg : good (byt s i) = true
    ·simp only [hg, Bool.not_true, ift_ite]
     obtain ⟨r, h1, h2⟩ := ih (i + 1) (by omega) (by omega)
     exact ⟨r, by simpa using h1, by simpa [bad] using h2⟩
    ·simp only [hg, Bool.not_false, ift_ite]
     exact ⟨_, rfl, by simp⟩
   ·have h1 := decode_hi s i hlt hb
    have g1 : good (Utf8.decode s i).1 = false := by
     generalize (Utf8.decode s i).1 = x at h1
     simp [good, small, other]; omega
    have g2 : bad s i = true := by
     simp [bad, good, small, other]; omega
    simp only [g1, g2, Bool.not_false, ift_ite]
    exact ⟨_, rfl, by simp⟩

def isName (s : ByteArray) : Bool := decide (1 ≤ s.size) && decide (s.size ≤ 24) && small (byt s 0) && (first (bad s) 0 s.size).isNone

theorem vName (s : ByteArray) (hs : s.size < 1000000000) : value_Name s = some (isName s) := by
 obtain ⟨r, h1, h2⟩ := indexFunc_eq s BIG 0 (Nat.zero_le _) (by rw [big_val]; omega)
 unfold value_Name value_Name_j1 strings_ContainsFunc_of_value_Name_1 strings_IndexFunc_of_value_Name_1 strings_indexFunc_of_value_Name_1
 rw [h1, size_zero]
 simp only [bnd_eq, h2, ift_ite]
 by_cases z0 : s.size = 0
 ·simp [z0, isName]
 ·by_cases z1 : 24 < s.size
  ·have : ¬ s.size ≤ 24 := by omega
   simp [z0, z1, isName, this, show (24 : Int) < (s.size : Int) by omega]
  ·have hz : ¬ (24 : Int) < (s.size : Int) := by omega
   have hb : ((s.data.toList.getD (0 : Int).toNat 0).toNat : Int) = (byt s 0 : Int) := rfl
   simp only [z0, decide_false, hz, Bool.false_eq_true, if_false, hb]
   rw [grd_pos (by omega), grd_pos (by omega)]
   simp only [decide_eq_true_eq]
   have : s.size ≤ 24 := by omega
   by_cases q1 : byt s 0 < 97
   ·have : ¬ 97 ≤ byt s 0 := by omega
    simp [show (byt s 0 : Int) < 97 by omega, isName, small, this]
   ·by_cases q2 : 122 < byt s 0
    ·have : ¬ byt s 0 ≤ 122 := by omega
     simp [show ¬ (byt s 0 : Int) < 97 by omega, show (122 : Int) < (byt s 0 : Int) by omega, isName, small, this]
    ·simp [show ¬ (byt s 0 : Int) < 97 by omega, show ¬ (122 : Int) < (byt s 0 : Int) by omega, isName, small, show 1 ≤ s.size by omega, this, show 97 ≤ byt s 0 by omega, show byt s 0 ≤ 122 by omega]

def rbad (s : ByteArray) (i : Nat) : Bool := !small (byt s i) && (i == 0 || !other (byt s i))

theorem rname_step (s : ByteArray) (hs : s.size < 1000000000) (k i : Nat) (hi : i < s.size) : ref1_Name_l1 s (k + 1) (i : Int) = if rbad s i = true then some false else ref1_Name_l1 s k ((i + 1 : Nat) : Int) := by
 rw [ref1_Name_l1, ← ift_ite]
 have hb : ((s.data.toList.getD (i : Int).toNat 0).toNat : Int) = (byt s i : Int) := rfl
 have hw : IntKind.i64.wrap ((i : Int) + 1) = ((i + 1 : Nat) : Int) := by rw [w64 (by omega) (by omega)]; omega
 have hg : 0 ≤ (i : Int) ∧ (i : Int) < (s.size : Int) := by omega
 rw [show decide ((i : Int) < (s.size : Int)) = true by simp [hg.2], ift_true]
 simp only [ref1_Name_j2, ref1_Name_j3, ref1_Name_j4, hb, hw, bnd_eq, grd_pos hg]
 have e1 : ((byt s i : Int) == 95) = (byt s i == 95) := by rw [Bool.eq_iff_iff]; simp; omega
 have e2 : (decide ((97 : Int) ≤ byt s i)) = decide (97 ≤ byt s i) := by rw [Bool.eq_iff_iff]; simp; omega
 have e3 : (decide ((byt s i : Int) ≤ 122)) = decide (byt s i ≤ 122) := by rw [Bool.eq_iff_iff]; simp; omega
 have e4 : (decide ((48 : Int) ≤ byt s i)) = decide (48 ≤ byt s i) := by rw [Bool.eq_iff_iff]; simp; omega
 have e5 : (decide ((byt s i : Int) ≤ 57)) = decide (byt s i ≤ 57) := by rw [Bool.eq_iff_iff]; simp; omega
 have e6 : ((i : Int) == 0) = (i == 0) := by rw [Bool.eq_iff_iff]; simp
 simp only [e1, e2, e3, e4, e5, e6, rbad, small, other]
 generalize hq : ref1_Name_l1 s k ((i + 1 : Nat) : Int) = q
 generalize (byt s i == 95) = b1
 generalize decide (97 ≤ byt s i) = b2
 generalize decide (byt s i ≤ 122) = b3
 generalize decide (48 ≤ byt s i) = b4
 generalize decide (byt s i ≤ 57) = b5
 generalize (i == 0) = b6
 cases b1 <;> cases b2 <;> cases b3 <;> cases b4 <;> cases b5 <;> cases b6 <;> rfl

theorem rName (s : ByteArray) (hs : s.size < 1000000000) : ref1_Name s = some (isName s) := by
 have hl := search (f := fun k i => ref1_Name_l1 s k (i : Int)) (n := s.size) (P := rbad s) (A := fun _ => some false) (B := some true) (fun k i hi => rname_step s hs k i hi)
  (fun k => by rw [ref1_Name_l1]; simp only [Int.lt_irrefl, decide_false, ift_false]; rfl) BIG 0 (Nat.zero_le _) (by rw [big_val]; omega)
 have hl : ref1_Name_l1 s BIG (0 : Int) = _ := hl
 unfold ref1_Name ref1_Name_j1
 rw [hl]
 simp only [ift_ite]
 by_cases z0 : s.size = 0
 ·simp [z0, isName]
 ·by_cases z1 : 24 < s.size
  ·have : ¬ s.size ≤ 24 := by omega
   simp [z0, z1, isName, this, show (24 : Int) < (s.size : Int) by omega]
  ·have hz : ¬ (24 : Int) < (s.size : Int) := by omega
   have hz2 : ¬ (s.size : Int) < 1 := by omega
   simp only [hz, hz2, decide_false, Bool.false_eq_true, if_false]
   have e : (first (rbad s) 0 s.size).isNone = (small (byt s 0) && (first (bad s) 0 s.size).isNone) := by
    rw [Bool.eq_iff_iff, Bool.and_eq_true, Option.isNone_iff_eq_none, Option.isNone_iff_eq_none, first_none, first_none]
    constructor
    ·intro h
     have h0 := h 0 (Nat.le_refl _) (by omega)
     simp only [rbad, beq_self_eq_true, Bool.true_or, Bool.and_true] at h0
     have h0' : small (byt s 0) = true := by simpa using h0
     refine ⟨h0', fun j _ hj => ?_⟩
     have h1 := h j (Nat.zero_le _) hj
     simp only [rbad, bad, good] at h1 ⊢
     cases hs : small (byt s j) <;> cases ho : other (byt s j) <;> simp_all
    ·rintro ⟨h0, h⟩ j _ hj
     have h1 := h j (Nat.zero_le _) hj
     simp only [rbad, bad, good] at h1 ⊢
     by_cases hj0 : j = 0
     ·subst hj0; simp [h0]
     ·cases hs : small (byt s j) <;> cases ho : other (byt s j) <;> simp_all
   have : (first (rbad s) 0 s.size).elim (some true) (fun _ => some false) = some ((first (rbad s) 0 s.size).isNone) := by cases first (rbad s) 0 s.size <;> rfl
   rw [this, e]
   simp [isName, show 1 ≤ s.size by omega, show s.size ≤ 24 by omega]

end Go.Proofs.YtmaemlebpjnmoaaGreatDoor
namespace Go.Proofs.YtmaemlebpjnmoaaGreatDoor
open Go Go.SX Go.SX.Cal Go.Lib
set_option linter.unusedVariables false
set_option linter.unusedSimpArgs false

def fnm (fs : List GField) (i : Nat) : ByteArray := (fs[i]?.map (·.name)).getD ByteArray.empty

theorem fnm_at {fs : List GField} {i : Nat} (h : i < fs.length) : fnm fs i = fs[i].name := by simp [fnm, h]

def noName (fs : List GField) (i : Nat) : Bool := !isName (fnm fs i)
def eqN (fs : List GField) (i j : Nat) : Bool := (fnm fs j).toList == (fnm fs i).toList
def twin (fs : List GField) (i : Nat) : Bool := (first (eqN fs i) 0 i).isSome
def badN (fs : List GField) : Bool := (first (noName fs) 0 fs.length).isSome
def dupN (fs : List GField) : Bool := (first (twin fs) 0 fs.length).isSome

structure FsOk (fs : List GField) : Prop where
 len : fs.length < 1000000000
 nam : ∀ f ∈ fs, f.name.size < 1000000000

theorem fsOk_of {fs : List GField} (h : sizeF fs < 1000000000) : FsOk fs :=
 ⟨by have := sizeF_len fs; omega, fun f hf => by have := sizeF_mem hf; have := sizeFd_eq f; omega⟩

theorem eta_f : ∀ f : GField, FieldP.mk f.id f.name f.need (GType.mk f.type.kind f.type.scale f.type.fields) = f
 | ⟨_, _, _, ⟨_, _, _⟩⟩ => rfl
theorem contains1 {fs : List GField} (ho : FsOk fs) : slices_ContainsFunc_api_Field_api_Field_of_value_fields_1 fs = some (badN fs) := by
 have hl := search (f := fun k i => slices_IndexFunc_api_Field_api_Field_of_value_fields_1_l1 fs k (i : Int)) (n := fs.length) (P := noName fs) (A := fun i => some (i : Int)) (B := some (-1)) (fun k i hi => by
   show slices_IndexFunc_api_Field_api_Field_of_value_fields_1_l1 fs (k + 1) (i : Int) = _
   rw [slices_IndexFunc_api_Field_api_Field_of_value_fields_1_l1, dec_lt hi, ift_true, at_nat hi, bnd_eq, value_fields_1, vName _ (ho.nam _ (List.getElem_mem hi)), wrap_succ hi ho.len]
   simp only [bnd_eq, ift_ite, noName, fnm_at hi])
  (fun k => by rw [slices_IndexFunc_api_Field_api_Field_of_value_fields_1_l1]; simp only [Int.lt_irrefl, decide_false, ift_false]; rfl) BIG 0 (Nat.zero_le _) (by rw [big_val]; have := ho.len; omega)
 have hl : slices_IndexFunc_api_Field_api_Field_of_value_fields_1_l1 fs BIG (0 : Int) = _ := hl
 unfold slices_ContainsFunc_api_Field_api_Field_of_value_fields_1 slices_IndexFunc_api_Field_api_Field_of_value_fields_1
 rw [hl]
 unfold badN
 cases first (noName fs) 0 fs.length with
 | none => rfl
 | some j => simp [bnd_eq]

theorem contains2 {fs : List GField} (ho : FsOk fs) {i : Nat} (hi : i < fs.length) : slices_ContainsFunc_api_Field_api_Field_of_value_fields_2 ((fs.drop (0 : Int).toNat).take ((i : Int).toNat - (0 : Int).toNat)) fs[i] = some (twin fs i, fs[i]) := by
 have ep : (fs.drop (0 : Int).toNat).take ((i : Int).toNat - (0 : Int).toNat) = fs.take i := by simp
 rw [ep]
 have hlen : (fs.take i).length = i := by simp; omega
 have hl := search (f := fun k j => slices_IndexFunc_api_Field_api_Field_of_value_fields_2_l1 (fs.take i) k fs[i].id fs[i].name fs[i].need fs[i].type.kind fs[i].type.scale fs[i].type.fields (j : Int)) (n := i) (P := eqN fs i) (A := fun j => some ((j : Int), fs[i])) (B := some (-1, fs[i])) (fun k j hj => by
   have hj' : j < (fs.take i).length := by rw [hlen]; exact hj
   have hjf : j < fs.length := by omega
   show slices_IndexFunc_api_Field_api_Field_of_value_fields_2_l1 (fs.take i) (k + 1) _ _ _ _ _ _ (j : Int) = _
   rw [slices_IndexFunc_api_Field_api_Field_of_value_fields_2_l1, dec_lt hj', ift_true, at_nat hj', bnd_eq, value_fields_2, wrap_succ hj (by have := ho.len; omega)]
   simp only [bnd_eq, ift_ite, eqN, fnm_at hi, fnm_at hjf, List.getElem_take, eta_f])
  (fun k => by
   show slices_IndexFunc_api_Field_api_Field_of_value_fields_2_l1 (fs.take i) (k + 1) _ _ _ _ _ _ (i : Int) = _
   rw [slices_IndexFunc_api_Field_api_Field_of_value_fields_2_l1]; simp only [hlen, Int.lt_irrefl, decide_false, ift_false, slices_IndexFunc_api_Field_api_Field_of_value_fields_2_j1, eta_f]) BIG 0 (Nat.zero_le _) (by rw [big_val]; have := ho.len; omega)
 have hl : slices_IndexFunc_api_Field_api_Field_of_value_fields_2_l1 (fs.take i) BIG _ _ _ _ _ _ (0 : Int) = _ := hl
 unfold slices_ContainsFunc_api_Field_api_Field_of_value_fields_2 slices_IndexFunc_api_Field_api_Field_of_value_fields_2
 rw [hl]
 unfold twin
 cases first (eqN fs i) 0 i with
 | none => rfl
 | some j => simp [bnd_eq]

theorem fields_loop {t : GType} (ho : FsOk t.fields) : value_fields_l1 t BIG (0 : Int) = some (if dupN t.fields = true then 5 else 0) := by
 have hl := search (f := fun k i => value_fields_l1 t k (i : Int)) (n := t.fields.length) (P := twin t.fields) (A := fun _ => some 5) (B := some 0) (fun k i hi => by
   show value_fields_l1 t (k + 1) (i : Int) = _
   rw [value_fields_l1, dec_lt hi, ift_true, at_nat hi, bnd_eq, grd_pos (by omega), contains2 ho hi, wrap_succ hi ho.len]
   simp only [bnd_eq, ift_ite])
  (fun k => by rw [value_fields_l1]; simp only [Int.lt_irrefl, decide_false, ift_false]; rfl) BIG 0 (Nat.zero_le _) (by rw [big_val]; have := ho.len; omega)
 have hl : value_fields_l1 t BIG (0 : Int) = _ := hl
 rw [hl]
 unfold dupN
 cases first (twin t.fields) 0 t.fields.length <;> rfl

theorem shape_l3 {t : GType} (ho : FsOk t.fields) (rec2 : Int → Option Int) {i : Nat} (hi : i < t.fields.length) : ref1_shape_l3 rec2 t (i : Int) BIG (0 : Int) = if twin t.fields i = true then some 5 else rec2 ((i + 1 : Nat) : Int) := by
 have hl := search (f := fun k j => ref1_shape_l3 rec2 t (i : Int) k (j : Int)) (n := i) (P := eqN t.fields i) (A := fun j => some 5) (B := rec2 ((i + 1 : Nat) : Int)) (fun k j hj => by
   have hjf : j < t.fields.length := by omega
   show ref1_shape_l3 rec2 t (i : Int) (k + 1) (j : Int) = _
   rw [ref1_shape_l3, dec_lt hj, ift_true, at_nat hjf, at_nat hi, wrap_succ hj (by have := ho.len; omega)]
   simp only [bnd_eq, ift_ite, eqN, fnm_at hi, fnm_at hjf])
  (fun k => by
   show ref1_shape_l3 rec2 t (i : Int) (k + 1) (i : Int) = _
   rw [ref1_shape_l3]; simp only [Int.lt_irrefl, decide_false, ift_false, ref1_shape_j5]; rw [wrap_succ hi ho.len]) BIG 0 (Nat.zero_le _) (by rw [big_val]; have := ho.len; omega)
 have hl : ref1_shape_l3 rec2 t (i : Int) BIG (0 : Int) = _ := hl
 rw [hl]
 unfold twin
 cases first (eqN t.fields i) 0 i <;> simp

theorem shape_l2 {t : GType} (ho : FsOk t.fields) : ref1_shape_l2 t BIG (0 : Int) = some (if dupN t.fields = true then 5 else 0) := by
 have hl := search (f := fun k i => ref1_shape_l2 t k (i : Int)) (n := t.fields.length) (P := twin t.fields) (A := fun _ => some 5) (B := some 0) (fun k i hi => by
   show ref1_shape_l2 t (k + 1) (i : Int) = _
   rw [ref1_shape_l2, dec_lt hi, ift_true, shape_l3 ho _ hi])
  (fun k => by rw [ref1_shape_l2]; simp only [Int.lt_irrefl, decide_false, ift_false]; rfl) BIG 0 (Nat.zero_le _) (by rw [big_val]; have := ho.len; omega)
 have hl : ref1_shape_l2 t BIG (0 : Int) = _ := hl
 rw [hl]
 unfold dupN
 cases first (twin t.fields) 0 t.fields.length <;> rfl

theorem shape_l1 {t : GType} (ho : FsOk t.fields) : ref1_shape_l1 t BIG (0 : Int) = some (if badN t.fields = true then 4 else if dupN t.fields = true then 5 else 0) := by
 have hl := search (f := fun k i => ref1_shape_l1 t k (i : Int)) (n := t.fields.length) (P := noName t.fields) (A := fun _ => some 4) (B := some (if dupN t.fields = true then 5 else 0)) (fun k i hi => by
   show ref1_shape_l1 t (k + 1) (i : Int) = _
   rw [ref1_shape_l1, dec_lt hi, ift_true, at_nat hi, bnd_eq, rName _ (ho.nam _ (List.getElem_mem hi)), wrap_succ hi ho.len]
   simp only [bnd_eq, ift_ite, noName, fnm_at hi])
  (fun k => by rw [ref1_shape_l1]; simp only [Int.lt_irrefl, decide_false, ift_false, ref1_shape_j4]; exact shape_l2 ho) BIG 0 (Nat.zero_le _) (by rw [big_val]; have := ho.len; omega)
 have hl : ref1_shape_l1 t BIG (0 : Int) = _ := hl
 rw [hl]
 unfold badN
 cases first (noName t.fields) 0 t.fields.length <;> rfl

def vf (t : GType) : Int :=
 if t.kind = 6 then (if t.fields.length ≠ 1 ∨ (fnm t.fields 0).size ≠ 0 then 1 else 0)
 else if t.kind ≠ 7 then (if 0 < t.fields.length then 1 else 0)
 else if t.fields.length = 0 then 1 else if badN t.fields = true then 4 else if dupN t.fields = true then 5 else 0

def scBad (t : GType) : Prop := t.scale ≠ 0 ∧ (t.kind ≠ 3 ∨ t.scale < 0 ∨ 12 < t.scale)
instance (t : GType) : Decidable (scBad t) := by unfold scBad; infer_instance

def shp (t : GType) : Int := if t.kind < 1 ∨ 7 < t.kind then 3 else if scBad t then 1 else vf t

theorem vFields {t : GType} (ho : FsOk t.fields) : value_fields t = some (vf t) := by
 unfold value_fields value_fields_j1 vf
 rw [contains1 ho, fields_loop ho]
 simp only [bnd_eq, ift_ite]
 by_cases h6 : t.kind = 6
 ·simp only [h6, beq_self_eq_true, if_true]
  by_cases hl : t.fields.length = 1
  ·have : (0 : Nat) < t.fields.length := by omega
   rw [show at? t.fields (0 : Int) = some t.fields[0] from at_nat (i := 0) this]
   simp only [hl, bnd_eq, size_zero, fnm_at this]
   by_cases hz : t.fields[0].name.size = 0 <;> simp [hz]
  ·simp [hl, show ((t.fields.length : Int) = 1) = False from eq_false (by omega)]
 ·by_cases h7 : t.kind = 7
  ·simp [h7]
   by_cases hl : t.fields = []
   ·simp [hl]
   ·simp [hl]
    by_cases hb : badN t.fields = true
    ·simp [hb]
    ·simp [hb]
  ·simp [h6, h7]
   by_cases hl : 0 < t.fields.length
   ·simp [hl]
   ·simp [hl]

theorem rShape {t : GType} (ho : FsOk t.fields) : ref1_shape t = some (shp t) := by
 have hj3 : ∀ x, ref1_shape_j3 t x = if x = true then some 1 else if t.kind ≠ 7 then some 0 else some (if badN t.fields = true then 4 else if dupN t.fields = true then 5 else 0) := by
  intro x
  unfold ref1_shape_j3
  rw [shape_l1 ho]
  cases x <;> simp [ift_ite]
 have hleaf : ref1_Leaf t.kind = some (decide (t.kind ≠ 6 ∧ t.kind ≠ 7)) := by
  unfold ref1_Leaf ref1_Leaf_j1
  by_cases h6 : t.kind = 6 <;> by_cases h7 : t.kind = 7 <;> simp [h6, h7, ift_ite]
 have hj1 : ∀ x, ref1_shape_j1 t x = if x = true then some 1 else some (vf t) := by
  intro x
  cases x with
  | true => rfl
  | false =>
   unfold ref1_shape_j1 ref1_shape_j2 vf
   rw [hleaf]
   simp only [ift_ite, bnd_eq, hj3]
   by_cases h6 : t.kind = 6
   ·simp only [h6, beq_self_eq_true, if_true]
    by_cases hl : t.fields.length = 1
    ·have : (0 : Nat) < t.fields.length := by omega
     rw [show at? t.fields (0 : Int) = some t.fields[0] from at_nat (i := 0) this]
     simp only [hl, bnd_eq, size_zero, fnm_at this]
     by_cases hz : t.fields[0].name.size = 0 <;> simp [hz]
    ·simp [hl, show ((t.fields.length : Int) = 1) = False from eq_false (by omega)]
   ·by_cases h7 : t.kind = 7
    ·simp [h7]
     by_cases hl : t.fields = []
     ·simp [hl]
     ·simp [hl]
    ·simp [h6, h7]
     by_cases hl : 0 < t.fields.length
     ·simp [hl]
     ·simp [hl]
 unfold ref1_shape shp ref1_within ref1_within_j1
 simp only [ift_ite, hj1, bnd_eq]
 by_cases a1 : t.kind < 1
 ·simp [a1, show ¬ (1 : Int) ≤ t.kind by omega, bnd_eq]
 ·by_cases a2 : 7 < t.kind
  ·simp [a2, show (1 : Int) ≤ t.kind by omega, show ¬ t.kind ≤ 7 by omega, bnd_eq]
  ·simp only [a1, a2, show (1 : Int) ≤ t.kind by omega, show t.kind ≤ 7 by omega, decide_true, or_self, if_false, if_true, Bool.not_true, bnd_eq]
   unfold scBad
   by_cases h3 : t.kind = 3
   ·by_cases b1 : t.scale < 0
    ·simp [h3, b1, show ¬ (0 : Int) ≤ t.scale by omega, show t.scale ≠ 0 by omega, bnd_eq]
    ·by_cases b2 : 12 < t.scale
     ·simp [h3, b1, b2, show (0 : Int) ≤ t.scale by omega, show ¬ t.scale ≤ 12 by omega, show t.scale ≠ 0 by omega, bnd_eq]
     ·simp [h3, b1, b2, show (0 : Int) ≤ t.scale by omega, show t.scale ≤ 12 by omega, bnd_eq]
   ·by_cases b0 : t.scale = 0 <;> simp [h3, b0]

end Go.Proofs.YtmaemlebpjnmoaaGreatDoor
namespace Go.Proofs.YtmaemlebpjnmoaaGreatDoor
open Go Go.SX Go.SX.Cal Go.Lib
set_option linter.unusedVariables false
set_option linter.unusedSimpArgs false

inductive V : GType → Prop where
 | mk (t : GType) (h1 : shp t = 0) (h2 : ∀ f, f ∈ t.fields → V f.type) : V t

theorem leafV (t : GType) : value_leaf t = some (decide (t.kind ≠ 6 ∧ t.kind ≠ 7)) := by
 unfold value_leaf value_leaf_j1
 by_cases h6 : t.kind = 6 <;> by_cases h7 : t.kind = 7 <;> simp [h6, h7, ift_ite]

theorem leafR (k : Int) : ref1_Leaf k = some (decide (k ≠ 6 ∧ k ≠ 7)) := by
 unfold ref1_Leaf ref1_Leaf_j1
 by_cases h6 : k = 6 <;> by_cases h7 : k = 7 <;> simp [h6, h7, ift_ite]

theorem checkJ2 {t : GType} (ho : FsOk t.fields) (q : GType → Int → GChecker → Option (Int × GChecker)) (l z : Int) :
  value_checker_check_j2 q t l z = if shp t ≠ 0 then some (shp t, ⟨z⟩) else value_checker_check_l1 q t l BIG z 0 := by
 have hj4 : ∀ x, value_checker_check_j4 q t l z x = if x = true then some (1, ⟨z⟩) else if vf t ≠ 0 then some (vf t, ⟨z⟩) else value_checker_check_l1 q t l BIG z 0 := by
  intro x
  unfold value_checker_check_j4
  rw [vFields ho]
  cases x <;> simp [ift_ite, bnd_eq]
 unfold value_checker_check_j2 value_checker_check_j3 shp
 simp only [ift_ite, hj4]
 by_cases a1 : t.kind < 1
 ·simp [a1]
 ·by_cases a2 : 7 < t.kind
  ·simp [a1, a2]
  ·simp only [a1, a2, decide_false, or_self, if_false, Bool.false_eq_true]
   unfold scBad
   by_cases b0 : t.scale = 0
   ·simp [b0]
   ·by_cases h3 : t.kind = 3
    ·by_cases b1 : t.scale < 0
     ·simp [b0, h3, b1]
     ·by_cases b2 : 12 < t.scale
      ·simp [b0, h3, b1, b2]
      ·simp [b0, h3, b1, b2]
    ·simp [b0, h3]

theorem checkR1 {t : GType} (ho : FsOk t.fields) (q : GType → Int → Int → Option (Int × Int)) (l z : Int) :
  ref1_checkType_j1 q t l z = if shp t ≠ 0 then some (shp t, z) else ref1_checkType_l1 q t l BIG z 0 := by
 unfold ref1_checkType_j1
 rw [rShape ho]
 simp [ift_ite, bnd_eq]

theorem V_of {t : GType} (h : shp t = 0) (hf : ∀ f ∈ t.fields, V f.type) : V t := .mk t h hf

theorem check_loop {t : GType} (ho : FsOk t.fields) (l : Int) (hl0 : -10 ≤ l) (hl1 : l ≤ 10) (q1 : GType → Int → GChecker → Option (Int × GChecker)) (q2 : GType → Int → Int → Option (Int × Int))
  (hq : ∀ f ∈ t.fields, ∀ n : Int, 0 ≤ n → n ≤ 40 → ∃ e m, q1 f.type (l + 1) ⟨n⟩ = some (e, ⟨m⟩) ∧ q2 f.type (l + 1) n = some (e, m) ∧ 0 ≤ m ∧ m ≤ 40 ∧ (e = 0 → V f.type)) :
  ∀ (kk i : Nat) (n : Int), i ≤ t.fields.length → t.fields.length - i < kk → 0 ≤ n → n ≤ 40 →
   ∃ e m, value_checker_check_l1 q1 t l kk n (i : Int) = some (e, ⟨m⟩) ∧ ref1_checkType_l1 q2 t l kk n (i : Int) = some (e, m) ∧ 0 ≤ m ∧ m ≤ 40 ∧ (e = 0 → ∀ j, i ≤ j → ∀ h : j < t.fields.length, V t.fields[j].type) := by
 intro kk
 induction kk with
 | zero => intro i n _ h; omega
 | succ kk ih =>
  intro i n hi hk n0 n1
  rw [value_checker_check_l1, ref1_checkType_l1]
  by_cases h : i = t.fields.length
  ·subst h
   simp only [Int.lt_irrefl, decide_false, ift_false]
   exact ⟨0, n, rfl, rfl, n0, n1, fun _ j h1 h2 => by omega⟩
  ·have hlt : i < t.fields.length := by omega
   rw [dec_lt hlt, ift_true, ift_true, at_nat hlt, bnd_eq, bnd_eq, w64 (x := l + 1) (by omega) (by omega), wrap_succ hlt ho.len]
   obtain ⟨e, m, h1, h2, h3, h4, h5⟩ := hq _ (List.getElem_mem hlt) n n0 n1
   rw [h1, h2]
   simp only [bnd_eq, ift_ite]
   by_cases he : e = 0
   ·obtain ⟨e', m', g1, g2, g3, g4, g5⟩ := ih (i + 1) m (by omega) (by omega) h3 h4
    refine ⟨e', m', by simpa [he] using g1, by simpa [he] using g2, g3, g4, fun h0 j hj hjl => ?_⟩
    by_cases hji : j = i
    ·subst hji; exact h5 he
    ·exact g5 h0 j (by omega) hjl
   ·exact ⟨e, m, by simp [he], by simp [he], h3, h4, fun h0 => absurd h0 he⟩

theorem check_eq : ∀ (d k : Nat) (t : GType) (l n : Int), l = 5 - d → d ≤ 5 → d < k → sizeT t < 1000000000 → 0 ≤ n → n ≤ 40 →
  ∃ e m, value_checker_check k t l ⟨n⟩ = some (e, ⟨m⟩) ∧ ref1_checkType k t l n = some (e, m) ∧ 0 ≤ m ∧ m ≤ 40 ∧ (e = 0 → V t) := by
 intro d
 induction d with
 | zero =>
  intro k t l n hl _ hk hs n0 n1
  obtain ⟨k, rfl⟩ : ∃ k', k = k' + 1 := ⟨k - 1, by omega⟩
  have hl4 : (4 : Int) < l := by omega
  rw [value_checker_check, ref1_checkType]
  simp only [hl4, decide_true, ift_true, value_checker_check_j1]
  exact ⟨7, n, rfl, rfl, n0, n1, fun h => by omega⟩
 | succ d ih =>
  intro k t l n hl hd hk hs n0 n1
  obtain ⟨k, rfl⟩ : ∃ k', k = k' + 1 := ⟨k - 1, by omega⟩
  have hl4 : ¬ (4 : Int) < l := by omega
  have hsz := sizeT_eq t
  have ho : FsOk t.fields := fsOk_of (by omega)
  have hq : ∀ f ∈ t.fields, ∀ n : Int, 0 ≤ n → n ≤ 40 → ∃ e m, value_checker_check k f.type (l + 1) ⟨n⟩ = some (e, ⟨m⟩) ∧ ref1_checkType k f.type (l + 1) n = some (e, m) ∧ 0 ≤ m ∧ m ≤ 40 ∧ (e = 0 → V f.type) := by
   intro f hf n n0 n1
   have h1 := sizeF_mem hf
   have h2 := sizeFd_eq f
   exact ih k f.type (l + 1) n (by omega) (by omega) (by omega) (by omega) n0 n1
  have main : ∀ z : Int, 0 ≤ z → z ≤ 40 → ∃ e m, value_checker_check_j2 (value_checker_check k) t l z = some (e, ⟨m⟩) ∧ ref1_checkType_j1 (ref1_checkType k) t l z = some (e, m) ∧ 0 ≤ m ∧ m ≤ 40 ∧ (e = 0 → V t) := by
   intro z z0 z1
   rw [checkJ2 ho, checkR1 ho]
   by_cases hsh : shp t = 0
   ·obtain ⟨e, m, h1, h2, h3, h4, h5⟩ := check_loop ho l (by omega) (by omega) _ _ hq BIG 0 z (Nat.zero_le _) (by rw [big_val]; have := ho.len; omega) z0 z1
    refine ⟨e, m, by simpa [hsh] using h1, by simpa [hsh] using h2, h3, h4, fun he => V_of hsh (fun f hf => ?_)⟩
    obtain ⟨j, hj, rfl⟩ := List.getElem_of_mem hf
    exact h5 he j (Nat.zero_le _) hj
   ·exact ⟨shp t, z, by simp [hsh], by simp [hsh], z0, z1, fun h => absurd h hsh⟩
  rw [value_checker_check, ref1_checkType]
  simp only [hl4, decide_false, ift_false, leafV, leafR, bnd_eq, value_checker_check_j1]
  by_cases hleaf : t.kind ≠ 6 ∧ t.kind ≠ 7
  ·simp only [hleaf, ne_eq, not_false_eq_true, and_self, decide_true, ift_true]
   by_cases h40 : n = 40
   ·simp only [h40, beq_self_eq_true, ift_true]
    exact ⟨7, 40, rfl, rfl, by omega, by omega, fun h => by omega⟩
   ·have : (n == 40) = false := by simpa using h40
    simp only [this, ift_false]
    rw [w64 (x := n + 1) (by omega) (by omega)]
    exact main (n + 1) (by omega) (by omega)
  ·simp only [hleaf, decide_false, ift_false]
   exact main n n0 n1

theorem checkType_eq (t : GType) (hs : sizeT t < 1000000000) : ∃ e, value_CheckType t = some e ∧ ref1_CheckType t = some e ∧ (e = 0 → V t) := by
 obtain ⟨e, m, h1, h2, h3, h4, h5⟩ := check_eq 4 BIG t 1 0 (by omega) (by omega) (by rw [big_val]; omega) hs (by omega) (by omega)
 refine ⟨e, ?_, ?_, h5⟩
 ·unfold value_CheckType; rw [h1]; rfl
 ·unfold ref1_CheckType; rw [h2]; rfl

end Go.Proofs.YtmaemlebpjnmoaaGreatDoor
namespace Go.Proofs.YtmaemlebpjnmoaaGreatDoor.Tm
open Go Go.SX Go.SX.Cal
set_option linter.unusedVariables false
set_option linter.unusedSimpArgs false

theorem ift_true {β : Type} (x y : Option β) : ift true x y = x := rfl
theorem ift_false {β : Type} (x y : Option β) : ift false x y = y := rfl
theorem ift_ite {β : Type} (b : Bool) (x y : Option β) : ift b x y = if b = true then x else y := by cases b <;> rfl

theorem floor_eq {a b : Int} (hb : 0 < b) (hb2 : b ≤ 1000000) (h1 : -1000000000000000 ≤ a) (h2 : a ≤ 1000000000000000) : value_floor a b = some (a / b, a % b) := by
 unfold value_floor value_floor_j1
 rw [grd_pos (by omega), grd_pos (by omega)]
 have hq : -1000000000000000 ≤ a / b ∧ a / b ≤ 1000000000000000 := by
  have e : a = b * (a / b) + a % b := (Int.mul_ediv_add_emod a b).symm
  have r0 := Int.emod_nonneg a (show b ≠ 0 by omega)
  have r1 := Int.emod_lt_of_pos a hb
  constructor
  ·apply Int.le_ediv_of_mul_le hb
   have : -1000000000000000 * b ≤ -1000000000000000 * 1 := by apply Int.mul_le_mul_of_nonpos_left <;> omega
   omega
  ·apply Int.ediv_le_of_le_mul hb
   have : 1000000000000000 * 1 ≤ 1000000000000000 * b := by apply Int.mul_le_mul_of_nonneg_left <;> omega
   omega
 have r0 := Int.emod_nonneg a (show b ≠ 0 by omega)
 have r1 := Int.emod_lt_of_pos a hb
 rw [Int.tdiv_eq_ediv, Int.tmod_eq_emod]
 have hs : b.sign = 1 := Int.sign_eq_one_of_pos hb
 have hn : (b.natAbs : Int) = b := by omega
 by_cases hc : 0 ≤ a ∨ b ∣ a
 ·simp only [hc, if_true, Int.natCast_zero, Int.ofNat_zero, Int.cast_ofNat_Int, Int.sub_zero, Int.add_zero]
  rw [show decide (a % b < 0) = false by simp; omega, ift_false, w64 (by omega) (by omega)]
 ·simp only [hc, if_false, hs, hn]
  have hne : a % b ≠ 0 := fun h => hc (.inr (Int.dvd_of_emod_eq_zero h))
  rw [show decide (a % b - b < 0) = true by simp; omega, ift_true]
  simp (disch := omega) only [w64]
  rw [show a / b + 1 - 1 = a / b by omega, show a % b - b + b = a % b by omega]

theorem days_eq {y m d : Int} (h1 : -1000000 ≤ y) (h2 : y ≤ 1000000) (h3 : 1 ≤ m) (h4 : m ≤ 12) (h5 : -100 ≤ d) (h6 : d ≤ 100) : value_days y m d = some (Cal.days y m d) := by
 have key : ∀ y' m', -1000001 ≤ y' → y' ≤ 1000001 → 3 ≤ m' → m' ≤ 14 → value_days_j1 d y' m' = some (y' / 400 * 146097 + S (y' % 400) + mdays (m' - 3) + d - 1 - 719468) := by
  intro y' m' a1 a2 a3 a4
  unfold value_days_j1
  rw [floor_eq (by decide) (by decide) (by omega) (by omega)]
  simp only [bnd_eq]
  have hr : 0 ≤ y' % 400 ∧ y' % 400 ≤ 399 := by omega
  simp (disch := omega) only [w64, Int.tdiv_eq_ediv_of_nonneg]
  unfold S mdays
  congr 1
  omega
 unfold value_days Cal.days
 by_cases hm : m ≤ 2
 ·simp only [hm, decide_true, ift_true, if_true]
  simp (disch := omega) only [w64]
  rw [key _ _ (by omega) (by omega) (by omega) (by omega), show m + 12 - 3 = m + 9 by omega]
 ·simp only [hm, decide_false, ift_false, if_false]
  rw [key _ _ (by omega) (by omega) (by omega) (by omega)]

theorem S_bound {y : Int} (h0 : 0 ≤ y) (h1 : y ≤ 399) : 0 ≤ S y ∧ S y ≤ 146096 := by unfold S; omega

theorem date_eq {n : Int} (h1 : -1000000000 ≤ n) (h2 : n ≤ 1000000000) : value_date n = some (Cal.date n) := by
 unfold value_date value_date_j1
 rw [w64 (by omega) (by omega), floor_eq (by decide) (by decide) (by omega) (by omega)]
 simp only [bnd_eq]
 have hr0 : 0 ≤ (n + 719468) % 146097 := by omega
 have hr1 : (n + 719468) % 146097 ≤ 146096 := by omega
 have he : -10000 ≤ (n + 719468) / 146097 ∧ (n + 719468) / 146097 ≤ 10000 := by omega
 obtain ⟨b0, b1⟩ := yr_bound hr0 hr1
 obtain ⟨s0, s1, _⟩ := yr_ok hr0 hr1
 unfold Cal.date
 simp only
 generalize (n + 719468) % 146097 = r at *
 generalize (n + 719468) / 146097 = era at *
 have e1 : IntKind.i64.wrap (IntKind.i64.wrap (IntKind.i64.wrap (r - IntKind.i64.wrap (r.tdiv 1460)) + IntKind.i64.wrap (r.tdiv 36524)) - IntKind.i64.wrap (r.tdiv 146096)) = r - r / 1460 + r / 36524 - r / 146096 := by
  simp (disch := omega) only [w64, Int.tdiv_eq_ediv_of_nonneg]
 rw [e1]
 have e2 : IntKind.i64.wrap ((r - r / 1460 + r / 36524 - r / 146096).tdiv 365) = yr r := by
  rw [Int.tdiv_eq_ediv_of_nonneg (by omega)]
  exact w64 (by unfold yr at *; omega) (by unfold yr at *; omega)
 rw [e2]
 generalize yr r = y at *
 have hS := S_bound b0 b1
 have e3 : IntKind.i64.wrap (IntKind.i64.wrap (IntKind.i64.wrap (y * 365) + IntKind.i64.wrap (y.tdiv 4)) - IntKind.i64.wrap (y.tdiv 100)) = S y := by
  simp (disch := omega) only [w64, Int.tdiv_eq_ediv_of_nonneg]
  unfold S; omega
 rw [e3]
 have hk : 0 ≤ r - S y ∧ r - S y ≤ 365 := by omega
 rw [w64 (x := r - S y) (by omega) (by omega)]
 generalize r - S y = k at *
 have e4 : IntKind.i64.wrap ((IntKind.i64.wrap (IntKind.i64.wrap (5 * k) + 2)).tdiv 153) = (5 * k + 2) / 153 := by
  simp (disch := omega) only [w64, Int.tdiv_eq_ediv_of_nonneg]
 rw [e4]
 have hm : 0 ≤ (5 * k + 2) / 153 ∧ (5 * k + 2) / 153 ≤ 11 := by omega
 generalize (5 * k + 2) / 153 = m at *
 unfold mdays
 simp (disch := omega) only [w64, Int.tdiv_eq_ediv_of_nonneg]
 by_cases hc : (12 : Int) < m + 3
 ·simp only [hc, decide_true, ift_true, if_true, gt_iff_lt]
 ·simp only [hc, decide_false, ift_false, if_false, gt_iff_lt]

def civ (s : Int) : GCivil := ⟨(Cal.date (s / 86400)).1, (Cal.date (s / 86400)).2.1, (Cal.date (s / 86400)).2.2, s % 86400 / 3600, s % 86400 % 3600 / 60, s % 86400 % 60⟩

theorem civil_eq {s : Int} (h1 : -1000000000000 ≤ s) (h2 : s ≤ 1000000000000) : value_civil s = some (civ s) := by
 unfold value_civil
 rw [floor_eq (by decide) (by decide) (by omega) (by omega)]
 simp only [bnd_eq]
 rw [date_eq (by omega) (by omega)]
 simp only [bnd_eq]
 have : 0 ≤ s % 86400 ∧ s % 86400 < 86400 := by omega
 unfold civ
 generalize s % 86400 = t at *
 simp (disch := omega) only [w64, Int.tdiv_eq_ediv_of_nonneg, Int.tmod_eq_emod_of_nonneg]

theorem days_bound {y m d : Int} (h1 : -20000 ≤ y) (h2 : y ≤ 20000) (h3 : 1 ≤ m) (h4 : m ≤ 12) (h5 : -100 ≤ d) (h6 : d ≤ 100) : -10000000 ≤ Cal.days y m d ∧ Cal.days y m d ≤ 10000000 := by
 unfold Cal.days S mdays; split <;> omega

def sec (c : GCivil) : Int := Cal.days c.year c.month c.day * 86400 + c.hour * 3600 + c.minute * 60 + c.second

structure Fine (c : GCivil) : Prop where
 y0 : -20000 ≤ c.year
 y1 : c.year ≤ 20000
 m0 : 1 ≤ c.month
 m1 : c.month ≤ 12
 d0 : -100 ≤ c.day
 d1 : c.day ≤ 100
 h0 : 0 ≤ c.hour
 h1 : c.hour ≤ 23
 i0 : 0 ≤ c.minute
 i1 : c.minute ≤ 59
 s0 : 0 ≤ c.second
 s1 : c.second ≤ 59

theorem tmod_zero (a b : Int) : (a.tmod b == 0) = (a % b == 0) := by
 have : a.tmod b = 0 ↔ a % b = 0 := by
  rw [← Int.dvd_iff_tmod_eq_zero, ← Int.dvd_iff_emod_eq_zero]
 by_cases h : a % b = 0
 ·rw [h, this.2 h]
 ·have h2 : a.tmod b ≠ 0 := fun e => h (this.1 e)
  rw [beq_eq_false_iff_ne.2 h2, beq_eq_false_iff_ne.2 h]

theorem leap_eq (y : Int) : value_leap y = some (decide (leap y)) := by
 unfold value_leap value_leap_j1
 have e2 : ((y.tmod 100) != 0) = !(y % 100 == 0) := by rw [bne, tmod_zero]
 rw [tmod_zero, tmod_zero, e2]
 unfold leap
 by_cases a : y % 4 = 0
 ·by_cases b : y % 100 = 0
  ·by_cases c : y % 400 = 0
   ·simp [a, b, c, ift_ite]
   ·simp [a, b, c, ift_ite]
  ·simp [a, b, ift_ite]
 ·simp [a, ift_ite]

theorem daysIn_eq {y m : Int} : value_daysIn y m = some (dim y m) := by
 unfold value_daysIn value_daysIn_j1 dim
 rw [leap_eq]
 simp only [bnd_eq]
 by_cases h2 : m = 2
 ·subst h2
  by_cases hl : leap y <;> simp [hl, ift_ite]
 by_cases h4 : m = 4
 ·subst h4; simp [ift_ite]
 by_cases h6 : m = 6
 ·subst h6; simp [ift_ite]
 by_cases h9 : m = 9
 ·subst h9; simp [ift_ite]
 by_cases h11 : m = 11
 ·subst h11; simp [ift_ite]
 simp [h2, h4, h6, h9, h11, ift_ite]

theorem dim_bound (y m : Int) : 28 ≤ dim y m ∧ dim y m ≤ 31 := by
 unfold dim; split <;> (try split) <;> (try split) <;> omega

theorem within_eq (a b c : Int) : value_within a b c = some (decide (b ≤ a ∧ a ≤ c)) := by
 unfold value_within value_within_j1
 by_cases h : b ≤ a <;> by_cases k : a ≤ c <;> simp [h, k, ift_ite]

end Go.Proofs.YtmaemlebpjnmoaaGreatDoor.Tm
namespace Go.Proofs.YtmaemlebpjnmoaaGreatDoor.Tm
open Go Go.SX Go.SX.Cal
set_option linter.unusedVariables false
set_option linter.unusedSimpArgs false

theorem big_val : BIG = 1152921504606846976 := rfl

structure TOk (t : GTurn) : Prop where
 m0 : 1 ≤ t.month
 m1 : t.month ≤ 12
 w0 : 1 ≤ t.week
 w1 : t.week ≤ 5
 d0 : 1 ≤ t.weekday
 d1 : t.weekday ≤ 7
 i0 : 0 ≤ t.minute
 i1 : t.minute ≤ 1440

def atN (t : GTurn) (y : Int) : Int := Cal.days y t.month 1 + (t.weekday - ((Cal.days y t.month 1 + 3) % 7 + 1) + 7) % 7

def atDay (t : GTurn) (y : Int) : Int :=
 if t.week < 5 then atN t y + (t.week - 1) * 7 else atN t y + 7 * ((Cal.days y t.month 1 + dim y t.month - 1 - atN t y) / 7)

theorem atN_bound {t : GTurn} (y : Int) : Cal.days y t.month 1 ≤ atN t y ∧ atN t y ≤ Cal.days y t.month 1 + 6 := by unfold atN; omega

theorem atDay_bound {t : GTurn} (ht : TOk t) (y : Int) : Cal.days y t.month 1 ≤ atDay t y ∧ atDay t y ≤ Cal.days y t.month 1 + 30 := by
 have := atN_bound (t := t) y
 have hd := dim_bound y t.month
 have := ht.w0
 unfold atDay; split <;> omega

/-! ### zones -/

structure ZOk (z : GZone) : Prop where
 o0 : -720 ≤ z.offset
 o1 : z.offset ≤ 720
 s : z.summer = 0 ∨ (TOk z.start ∧ TOk z.stop ∧ (z.summer = 30 ∨ z.summer = 60) ∧ z.start.minute = 120 ∧ ((z.start.month = 3 ∧ 10 ≤ z.stop.month ∧ z.stop.month ≤ 11) ∨ (z.start.month = 10 ∧ z.stop.month = 4)))

def yof (z : GZone) (m : Int) : Int := (Cal.date ((m + z.offset * 60) / 86400)).1
def bgn (z : GZone) (y : Int) : Int := atDay z.start y * 86400 + z.start.minute * 60 - z.offset * 60
def fin (z : GZone) (y : Int) : Int := atDay z.stop y * 86400 + z.stop.minute * 60 - z.offset * 60 - z.summer * 60
def isIn (z : GZone) (m : Int) : Prop := if fin z (yof z m) ≤ bgn z (yof z m) then m < fin z (yof z m) ∨ bgn z (yof z m) ≤ m else bgn z (yof z m) ≤ m ∧ m < fin z (yof z m)
instance (z : GZone) (m : Int) : Decidable (isIn z m) := by unfold isIn; infer_instance
def ahd (z : GZone) (m : Int) : Int := if z.summer = 0 then z.offset * 60 else if isIn z m then z.offset * 60 + z.summer * 60 else z.offset * 60

theorem year_bound {n : Int} (h1 : -5000000 ≤ n) (h2 : n ≤ 5000000) : -20000 ≤ (Cal.date n).1 ∧ (Cal.date n).1 ≤ 20000 := by
 obtain ⟨b0, b1⟩ := yr_bound (r := (n + 719468) % 146097) (by omega) (by omega)
 simp only [Cal.date]
 split <;> omega

def Zs : List GZone := (api_Zones).getD []

end Go.Proofs.YtmaemlebpjnmoaaGreatDoor.Tm
namespace Go.Proofs.YtmaemlebpjnmoaaGreatDoor.Tm
open Go Go.SX Go.SX.Cal
set_option linter.unusedVariables false
set_option linter.unusedSimpArgs false

theorem civ_ok {s : Int} (h1 : -400000000000 ≤ s) (h2 : s ≤ 400000000000) : Fine (civ s) ∧ sec (civ s) = s ∧ 1 ≤ (civ s).day ∧ (civ s).day ≤ dim (civ s).year (civ s).month := by
 obtain ⟨e, m0, m1, d0, d1⟩ := date_ok (s / 86400)
 have hy := year_bound (n := s / 86400) (by omega) (by omega)
 have hd := dim_bound (Cal.date (s / 86400)).1 (Cal.date (s / 86400)).2.1
 refine ⟨⟨hy.1, hy.2, m0, m1, ?_, ?_, ?_, ?_, ?_, ?_, ?_, ?_⟩, ?_, d0, d1⟩
 ·show -100 ≤ (Cal.date (s / 86400)).2.2; omega
 ·show (Cal.date (s / 86400)).2.2 ≤ 100; omega
 ·show 0 ≤ s % 86400 / 3600; omega
 ·show s % 86400 / 3600 ≤ 23; omega
 ·show 0 ≤ s % 86400 % 3600 / 60; omega
 ·show s % 86400 % 3600 / 60 ≤ 59; omega
 ·show 0 ≤ s % 86400 % 60; omega
 ·show s % 86400 % 60 ≤ 59; omega
 ·show Cal.days (Cal.date (s / 86400)).1 (Cal.date (s / 86400)).2.1 (Cal.date (s / 86400)).2.2 * 86400 + s % 86400 / 3600 * 3600 + s % 86400 % 3600 / 60 * 60 + s % 86400 % 60 = s
  rw [e]; omega

def zf (nm : ByteArray) : Option GZone := Zs.find? (fun z => z.name.toList == nm.toList)

def chk (c : GCivil) : Prop := 1 ≤ c.year ∧ c.year ≤ 9999 ∧ 1 ≤ c.month ∧ c.month ≤ 12 ∧ 1 ≤ c.day ∧ c.day ≤ dim c.year c.month ∧ 0 ≤ c.hour ∧ c.hour ≤ 23 ∧ 0 ≤ c.minute ∧ c.minute ≤ 59 ∧ 0 ≤ c.second ∧ c.second ≤ 59

instance (c : GCivil) : Decidable (chk c) := by unfold chk; infer_instance

def J (z : GZone) (y : Int) : Int := Cal.days y 1 1 * 86400 - z.offset * 60

theorem yof_iff {z : GZone} {m y : Int} : yof z m = y ↔ J z y ≤ m ∧ m < J z (y + 1) := by
 unfold yof J
 rw [year_iff]
 omega

theorem month_E (y : Int) : Cal.days y 3 1 = E y ∧ Cal.days y 4 1 = E y + 31 ∧ Cal.days y 10 1 = E y + 214 ∧ Cal.days y 11 1 = E y + 245 ∧ Cal.days (y + 1) 1 1 = E y + 306 ∧ E y - 60 ≤ Cal.days y 1 1 ∧ Cal.days y 1 1 ≤ E y - 59 := by
 rw [days_jan, days_jan, show y + 1 - 1 = y by omega]
 have hE := E_step (y - 1)
 rw [show y - 1 + 1 = y by omega] at hE
 simp only [days_E]
 simp [mdays]
 omega

theorem near {z : GZone} (hz : ZOk z) (hs : z.summer ≠ 0) {m : Int} (y : Int) (h1 : J z y - 1728000 ≤ m) (h2 : m < J z y + 1728000) : ahd z m = if z.start.month = 3 then z.offset * 60 else z.offset * 60 + z.summer * 60 := by
 obtain ⟨o0, o1, hss⟩ := hz
 rcases hss with h | ⟨t1, t2, hsu, hmin, hmo⟩
 ·exact absurd h hs
 have key : (z.start.month = 3 ∧ ¬ isIn z m) ∨ (z.start.month ≠ 3 ∧ isIn z m) := by
  unfold isIn
  by_cases hy : J z y ≤ m
  ·have h366 := days_year y
   have hyo : yof z m = y := yof_iff.2 ⟨hy, by unfold J at *; omega⟩
   rw [hyo]
   obtain ⟨e3, e4, e10, e11, en, ej0, ej1⟩ := month_E y
   have b1 := atDay_bound t1 y
   have b2 := atDay_bound t2 y
   have i3 := t2.i0; have i4 := t2.i1
   unfold bgn fin
   unfold J at *
   rcases hmo with ⟨m1, m2, m3⟩ | ⟨m1, m2⟩
   ·rw [m1, e3] at b1
    refine .inl ⟨m1, ?_⟩
    have hst : z.stop.month = 10 ∨ z.stop.month = 11 := by omega
    rcases hst with hst | hst
    ·rw [hst, e10] at b2
     rw [if_neg (by omega)]; omega
    ·rw [hst, e11] at b2
     rw [if_neg (by omega)]; omega
   ·rw [m1, e10] at b1
    rw [m2, e4] at b2
    refine .inr ⟨by omega, ?_⟩
    rw [if_pos (by omega)]; omega
  ·have h366 := days_year (y - 1)
   rw [show y - 1 + 1 = y by omega] at h366
   have hyo : yof z m = y - 1 := yof_iff.2 ⟨by unfold J at *; omega, by rw [show y - 1 + 1 = y by omega]; omega⟩
   rw [hyo]
   obtain ⟨e3, e4, e10, e11, en, ej0, ej1⟩ := month_E (y - 1)
   rw [show y - 1 + 1 = y by omega] at en
   have b1 := atDay_bound t1 (y - 1)
   have b2 := atDay_bound t2 (y - 1)
   have i3 := t2.i0; have i4 := t2.i1
   unfold bgn fin
   unfold J at *
   rcases hmo with ⟨m1, m2, m3⟩ | ⟨m1, m2⟩
   ·rw [m1, e3] at b1
    refine .inl ⟨m1, ?_⟩
    have hst : z.stop.month = 10 ∨ z.stop.month = 11 := by omega
    rcases hst with hst | hst
    ·rw [hst, e10] at b2
     rw [if_neg (by omega)]; omega
    ·rw [hst, e11] at b2
     rw [if_neg (by omega)]; omega
   ·rw [m1, e10] at b1
    rw [m2, e4] at b2
    refine .inr ⟨by omega, ?_⟩
    rw [if_pos (by omega)]; omega
 unfold ahd
 rw [if_neg hs]
 rcases key with ⟨k1, k2⟩ | ⟨k1, k2⟩
 ·rw [if_neg k2, if_pos k1]
 ·rw [if_pos k2, if_neg k1]

theorem days_one : Cal.days 1 1 1 = -719162 := by decide +kernel

theorem first {z : GZone} (hz : ZOk z) {m : Int} (hs : z.summer ≠ 0) (h : ahd z m = z.offset * 60) (hx : ahd z (m - z.summer * 60) = z.offset * 60 + z.summer * 60) (hm : (-62135596800) ≤ m) : (-62135596800) ≤ m - z.summer * 60 := by
 apply Classical.byContradiction
 intro hn
 have hsu : z.summer = 30 ∨ z.summer = 60 := by rcases hz.s with h | ⟨_, _, h, _⟩ <;> omega
 have o0 := hz.o0; have o1 := hz.o1
 have n1 := near hz hs (m := m) 1 (by unfold J; rw [days_one]; omega) (by unfold J; rw [days_one]; omega)
 have n2 := near hz hs (m := m - z.summer * 60) 1 (by unfold J; rw [days_one]; omega) (by unfold J; rw [days_one]; omega)
 rw [n1] at h; rw [n2] at hx
 split at h <;> omega

end Go.Proofs.YtmaemlebpjnmoaaGreatDoor.Tm
namespace Go.Proofs.YtmaemlebpjnmoaaGreatDoor.Tm
open Go Go.SX Go.SX.Cal
set_option linter.unusedVariables false
set_option linter.unusedSimpArgs false

theorem rfloor_eq {a b : Int} (hb : 0 < b) (hb2 : b ≤ 1000000) (h1 : -1000000000000000 ≤ a) (h2 : a ≤ 1000000000000000) : ref1_floor a b = some (a / b) := by
 have hf := floor_eq hb hb2 h1 h2
 unfold value_floor value_floor_j1 at hf
 unfold ref1_floor ref1_floor_j1 ref1_floor_j2
 rw [grd_pos (by omega), grd_pos (by omega)] at hf ⊢
 have hsgn : decide (b < 0) = false := by simp; omega
 rw [hsgn]
 by_cases h0 : a.tmod b = 0
 ·rw [h0] at hf ⊢
  rw [show decide ((0 : Int) < 0) = false from rfl, ift_false] at hf
  rw [show ((0 : Int) != 0) = false from rfl, ift_false, ift_false]
  have := congrArg (Option.map Prod.fst) hf
  simpa using this
 ·have hne : (a.tmod b != 0) = true := by simp [h0]
  rw [hne, ift_true]
  by_cases ha : a < 0
  ·have hneg : a.tmod b < 0 := by
    have r1 := Int.emod_lt_of_pos a hb
    have r0 := Int.emod_nonneg a (show b ≠ 0 by omega)
    have e := Int.tmod_eq_emod (a := a) (b := b)
    by_cases hd : b ∣ a
    ·exfalso
     exact h0 (Int.tmod_eq_zero_of_dvd hd)
    ·rw [if_neg (by omega)] at e
     have : (b.natAbs : Int) = b := by omega
     omega
   rw [show decide (a.tmod b < 0) = true by simpa using hneg, ift_true] at hf
   rw [show decide (a < 0) = true by simpa using ha]
   have := congrArg (Option.map Prod.fst) hf
   simpa [ift_ite] using this
  ·have hpos : ¬ a.tmod b < 0 := by
    have := Int.tmod_nonneg (a := a) b (by omega)
    omega
   rw [show decide (a.tmod b < 0) = false by simpa using hpos, ift_false] at hf
   rw [show decide (a < 0) = false by simpa using ha]
   have := congrArg (Option.map Prod.fst) hf
   simpa [ift_ite] using this

theorem rdim_eq {y m : Int} : ref1_MonthDays y m = some (dim y m) := daysIn_eq

theorem rwithin_eq (a b c : Int) : ref1_within a b c = some (decide (b ≤ a ∧ a ≤ c)) := within_eq a b c

theorem jan_zero : Cal.days 0 1 1 = -719528 := by decide +kernel

theorem yearStart_eq {y : Int} (h1 : 0 ≤ y) (h2 : y ≤ 20000) : ref1_yearStart y = some (Cal.days y 1 1) := by
 unfold ref1_yearStart ref1_yearStart_j1
 by_cases hy : 0 < y
 ·rw [show decide (0 < y) = true by simpa using hy, ift_true]
  simp only [bnd_eq]
  simp (disch := omega) only [w64, Int.tdiv_eq_ediv_of_nonneg]
  congr 1
  rw [days_jan]
  unfold E S
  omega
 ·have : y = 0 := by omega
  subst this
  rw [jan_zero]; rfl

theorem month_step (y k : Int) (h1 : 1 ≤ k) (h2 : k ≤ 11) : Cal.days y (k + 1) 1 = Cal.days y k 1 + dim y k := by
 have hE := E_step (y - 1)
 rw [show y - 1 + 1 = y by omega] at hE
 rw [days_E, days_E]
 unfold dim
 have hc : k = 1 ∨ k = 2 ∨ k = 3 ∨ k = 4 ∨ k = 5 ∨ k = 6 ∨ k = 7 ∨ k = 8 ∨ k = 9 ∨ k = 10 ∨ k = 11 := by omega
 rcases hE with ⟨hl, hE⟩ | ⟨hl, hE⟩ <;> simp only [hl, if_true, if_false] <;> rcases hc with rfl | rfl | rfl | rfl | rfl | rfl | rfl | rfl | rfl | rfl | rfl <;> simp [mdays] <;> omega

theorem days_d (y m d : Int) : Cal.days y m d = Cal.days y m 1 + d - 1 := by
 rw [days_E, days_E]; split <;> omega

theorem civil_months {s Y M D : Int} (hs1 : -1000000000000 ≤ s) (hs2 : s ≤ 1000000000000) (hY : 0 ≤ Y) (hY2 : Y ≤ 20000) (hM1 : 1 ≤ M) (hM2 : M ≤ 12) (hD1 : 1 ≤ D) (hD2 : D ≤ dim Y M) (hn : Cal.days Y M D = s / 86400) :
  ∀ (k : Nat) (b : Int), 1 ≤ b → b ≤ M → M - b < k → ref1_civil_l2 s (s / 86400) Y k b (s / 86400 - Cal.days Y b 1) = some ⟨Y, M, D, s % 86400 / 3600, s % 86400 % 3600 / 60, s % 86400 % 60⟩ := by
 intro k
 induction k with
 | zero => intro b h1 h2 h3; omega
 | succ k ih =>
  intro b h1 h2 h3
  rw [ref1_civil_l2]
  have hd := dim_bound Y b
  have hdM := dim_bound Y M
  have hbd := days_bound (y := Y) (m := b) (d := 1) (by omega) (by omega) h1 (by omega) (by decide) (by decide)
  rw [rdim_eq]
  simp only [bnd_eq]
  by_cases hb : b < M
  ·have hle : dim Y b ≤ s / 86400 - Cal.days Y b 1 := by
    have e1 := month_step Y b h1 (by omega)
    -- months from b + 1 on come later
    have mono : ∀ (j : Nat), b + 1 + j ≤ M → Cal.days Y (b + 1) 1 ≤ Cal.days Y (b + 1 + j) 1 := by
     intro j
     induction j with
     | zero => intro _; simp
     | succ j ihj =>
      intro hj
      have := ihj (by omega)
      have e2 := month_step Y (b + 1 + j) (by omega) (by omega)
      have e3 := dim_bound Y (b + 1 + j)
      rw [show b + 1 + ((j + 1 : Nat) : Int) = b + 1 + j + 1 by omega, e2]
      omega
    have := mono (M - (b + 1)).toNat (by omega)
    rw [show b + 1 + ((M - (b + 1)).toNat : Int) = M by omega] at this
    have e4 := days_d Y M D
    omega
   rw [show decide (dim Y b ≤ s / 86400 - Cal.days Y b 1) = true by simpa using hle, ift_true]
   rw [w64 (by omega) (by omega), w64 (by omega) (by omega), show s / 86400 - Cal.days Y b 1 - dim Y b = s / 86400 - Cal.days Y (b + 1) 1 by rw [month_step Y b h1 (by omega)]; omega]
   exact ih (b + 1) (by omega) (by omega) (by omega)
  ·have : b = M := by omega
   subst this
   have e4 := days_d Y b D
   rw [show decide (dim Y b ≤ s / 86400 - Cal.days Y b 1) = false by simp; omega, ift_false]
   unfold ref1_civil_j2
   have ht : 0 ≤ s - 86400 * (s / 86400) ∧ s - 86400 * (s / 86400) < 86400 := by omega
   simp (disch := omega) only [w64, Int.tdiv_eq_ediv_of_nonneg, Int.tmod_eq_emod_of_nonneg]
   simp only [bnd_eq]
   have e5 : s - 86400 * (s / 86400) = s % 86400 := by omega
   rw [e5, show s / 86400 - Cal.days Y b 1 + 1 = D by omega]
   have e6 : s % 86400 / 60 % 60 = s % 86400 % 3600 / 60 := by omega
   simp (disch := omega) only [w64, Int.tmod_eq_emod_of_nonneg]
   rw [e6]

theorem civil_years {s Y : Int} (hs1 : -1000000000000 ≤ s) (hs2 : s ≤ 1000000000000) (hYd : (Cal.date (s / 86400)).1 = Y) : ∀ (k : Nat) (lo hi : Int), 0 ≤ lo → lo ≤ Y → Y < hi → hi ≤ 10001 → hi - lo ≤ k →
  ref1_civil_l1 s (s / 86400) k lo hi = some (civ s) := by
 intro k
 induction k with
 | zero => intro lo hi a b c d e; omega
 | succ k ih =>
  intro lo hi a b c d e
  rw [ref1_civil_l1]
  rw [w64 (x := hi - lo) (by omega) (by omega), w64 (x := lo + hi) (by omega) (by omega)]
  by_cases h1 : 1 < hi - lo
  ·rw [show decide (1 < hi - lo) = true by simpa using h1, ift_true]
   simp (disch := omega) only [w64, Int.tdiv_eq_ediv_of_nonneg]
   rw [yearStart_eq (by omega) (by omega)]
   simp only [bnd_eq]
   obtain ⟨y1, y2⟩ := year_iff.1 hYd
   by_cases hm : (lo + hi) / 2 ≤ Y
   ·have := days_mono hm
    rw [show decide (Cal.days ((lo + hi) / 2) 1 1 ≤ s / 86400) = true by simp; omega, ift_true]
    exact ih _ _ (by omega) hm c d (by omega)
   ·have := days_mono (y := Y + 1) (z := (lo + hi) / 2) (by omega)
    rw [show decide (Cal.days ((lo + hi) / 2) 1 1 ≤ s / 86400) = false by simp; omega, ift_false]
    exact ih _ _ a b (by omega) (by omega) (by omega)
  ·rw [show decide (1 < hi - lo) = false by simpa using h1, ift_false]
   have : lo = Y := by omega
   subst this
   unfold ref1_civil_j1
   rw [yearStart_eq (by omega) (by omega)]
   simp only [bnd_eq]
   have hb := days_bound (y := lo) (m := 1) (d := 1) (by omega) (by omega) (by decide) (by decide) (by decide) (by decide)
   rw [w64 (by omega) (by omega)]
   obtain ⟨e1, m0, m1, d0, d1⟩ := date_ok (s / 86400)
   rw [hYd] at e1 d1
   have := civil_months hs1 hs2 (by omega) (by omega) m0 m1 d0 d1 e1 BIG 1 (by decide) m0 (by rw [big_val]; omega)
   rw [this]
   unfold civ
   rw [hYd]

theorem rcivil_eq {s : Int} (hs1 : -1000000000000 ≤ s) (hs2 : s ≤ 1000000000000) (h0 : 0 ≤ (Cal.date (s / 86400)).1) (h1 : (Cal.date (s / 86400)).1 ≤ 10000) : ref1_civil s = some (civ s) := by
 unfold ref1_civil
 rw [rfloor_eq (by decide) (by decide) (by omega) (by omega)]
 simp only [bnd_eq]
 exact civil_years hs1 hs2 rfl BIG 0 10001 (by decide) h0 (by omega) (by decide) (by rw [big_val]; decide)

theorem years_of {s : Int} (h1 : -62160000000 ≤ s) (h2 : s ≤ 253402400799) : 0 ≤ (Cal.date (s / 86400)).1 ∧ (Cal.date (s / 86400)).1 ≤ 10000 := by
 obtain ⟨a1, a2⟩ := (year_iff (n := s / 86400) (y := (Cal.date (s / 86400)).1)).1 rfl
 have e0 := jan_zero
 have e1 : Cal.days 10001 1 1 = 2933263 := by decide +kernel
 constructor
 ·apply Classical.byContradiction
  intro hn
  have := days_mono (y := (Cal.date (s / 86400)).1 + 1) (z := 0) (by omega)
  omega
 ·apply Classical.byContradiction
  intro hn
  have := days_mono (y := 10001) (z := (Cal.date (s / 86400)).1) (by omega)
  omega

/-! ### turns -/

end Go.Proofs.YtmaemlebpjnmoaaGreatDoor.Tm
namespace Go.Proofs.YtmaemlebpjnmoaaGreatDoor.Tm
open Go Go.SX Go.SX.Cal
set_option linter.unusedVariables false
set_option linter.unusedSimpArgs false

end Go.Proofs.YtmaemlebpjnmoaaGreatDoor.Tm
namespace Go.Proofs.YtmaemlebpjnmoaaGreatDoor
open Go Go.SX Go.SX.Cal Go.Lib
set_option linter.unusedVariables false
set_option linter.unusedSimpArgs false

theorem enc_eq (r : Int) : (Utf8.encode r).data.toList = encodeRune r := by
 unfold Utf8.encode
 rw [validRune_eq]
 unfold validRune
 by_cases hv : (0 ≤ r ∧ r < 55296) ∨ (57343 < r ∧ r ≤ 1114111)
 ·rw [decide_eq_true hv]
  simp only [if_true]
  obtain ⟨n, rfl⟩ : ∃ n : Nat, r = (n : Int) := ⟨r.toNat, by omega⟩
  rw [Int.toNat_natCast]
  by_cases h1 : n < 128
  ·rw [if_pos h1]
   unfold encodeRune
   rw [encodeRuneZ_one (by omega) (by omega)]
   simp
  ·rw [if_neg h1]
   by_cases h2 : n < 2048
   ·rw [if_pos h2]
    unfold encodeRune
    rw [encodeRuneZ_two (by omega) (by omega)]
    simp only [List.map_cons, List.map_nil, show (192 + (n : Int) / 64).toNat = 192 + n / 64 by omega, show (128 + (n : Int) % 64).toNat = 128 + n % 64 by omega]
   ·rw [if_neg h2]
    by_cases h3 : n < 65536
    ·rw [if_pos h3]
     unfold encodeRune
     rw [encodeRuneZ_three (by omega)]
     simp only [List.map_cons, List.map_nil, show (224 + (n : Int) / 4096).toNat = 224 + n / 4096 by omega, show (128 + (n : Int) / 64 % 64).toNat = 128 + n / 64 % 64 by omega, show (128 + (n : Int) % 64).toNat = 128 + n % 64 by omega]
    ·rw [if_neg h3]
     unfold encodeRune
     rw [encodeRuneZ_four (by omega) (by omega)]
     simp only [List.map_cons, List.map_nil, show (240 + (n : Int) / 262144).toNat = 240 + n / 262144 by omega, show (128 + (n : Int) / 4096 % 64).toNat = 128 + n / 4096 % 64 by omega, show (128 + (n : Int) / 64 % 64).toNat = 128 + n / 64 % 64 by omega, show (128 + (n : Int) % 64).toNat = 128 + n % 64 by omega]
 ·rw [decide_eq_false hv]
  unfold encodeRune
  rw [encodeRuneZ_bad (by omega)]
  simp only [Bool.false_eq_true, if_false]
  decide

theorem runesBytes_list (ns : List Int) : (runesBytes ns).data.toList = (ns.map encodeRune).flatten := by
 have h : ∀ (ns : List Int) (acc : ByteArray), (ns.foldl (fun r n => r ++ Utf8.encode n) acc).data.toList = acc.data.toList ++ (ns.map encodeRune).flatten := by
  intro ns
  induction ns with
  | nil => intro acc; simp
  | cons n ns ih => intro acc; rw [List.foldl_cons, ih, ByteArray.data_append, Array.toList_append, enc_eq]; simp
 unfold runesBytes
 rw [h]
 rfl

theorem ba_ext {a b : ByteArray} (h : a.data.toList = b.data.toList) : a = b := by
 cases a; cases b
 congr
 exact Array.ext' h

theorem rune_loop (p : GTransform) (v : GValue) (hs : v.s.size < 1000000) (hp : 0 ≤ p.param) : ∀ (m f b i x : Nat), v.s.size ≤ i + m → m ≤ b → m < f → i ≤ v.s.size → validD (v.s.data.toList.drop i) = true → (x : Int) ≤ p.param → x ≤ i →
  ∃ t, ref3_Transform_l1 p v f i (x : Int) = ref3_Transform_j2 v t ∧ t.data.toList = v.s.data.toList.take i ++ (((runesAt v.s b i).take (p.param.toNat - x)).map encodeRune).flatten := by
 intro m
 induction m with
 | zero =>
  intro f b i x hi hb hf hle hv hx hxi
  obtain ⟨f, rfl⟩ : ∃ q, f = q + 1 := ⟨f - 1, by omega⟩
  have : i = v.s.size := by omega
  subst this
  refine ⟨v.s, ?_, ?_⟩
  ·rw [ref3_Transform_l1, decide_eq_false (by omega), ift_false]
  ·have : runesAt v.s b v.s.size = [] := by cases b <;> simp [runesAt]
   rw [this, List.take_nil, List.map_nil, List.flatten_nil, List.append_nil, List.take_of_length_le (by simp)]
 | succ m ih =>
  intro f b i x hi hb hf hle hv hx hxi
  obtain ⟨f, rfl⟩ : ∃ q, f = q + 1 := ⟨f - 1, by omega⟩
  obtain ⟨b, rfl⟩ : ∃ q, b = q + 1 := ⟨b - 1, by omega⟩
  by_cases hlt : i < v.s.size
  ·have hl : v.s.data.toList.length = v.s.size := by simp
   by_cases hxp : (x : Int) = p.param
   ·refine ⟨v.s.extract 0 i, ?_, ?_⟩
    ·rw [ref3_Transform_l1, decide_eq_true hlt, ift_true, show (((x : Int)) == p.param) = true from beq_iff_eq.2 hxp, ift_true]
     unfold grd
     rw [if_pos ⟨by omega, by simp, by simp; omega⟩]
     rfl
    ·rw [show p.param.toNat - x = 0 by omega, List.take_zero, List.map_nil, List.flatten_nil, List.append_nil]
     simp
   ·have hne : v.s.data.toList.drop i ≠ [] := fun e => by have := congrArg List.length e; rw [List.length_drop, hl] at this; simp at this; omega
    have hw := decodeL_width (v.s.data.toList.drop i)
    have hwl := decodeL_le (v.s.data.toList.drop i) hne
    rw [validD_step _ hne] at hv
    have hbad : ¬ ((decodeL (v.s.data.toList.drop i)).1 = 65533 ∧ (decodeL (v.s.data.toList.drop i)).2 = 1) := fun h => by rw [if_pos h] at hv; cases hv
    rw [if_neg hbad, List.drop_drop] at hv
    have henc := encode_decode _ hne hbad
    rw [decodeL_drop] at hw hwl hbad hv henc
    rw [List.length_drop, hl] at hwl
    obtain ⟨t, t1, t2⟩ := ih f b (i + (Utf8.decode v.s i).2) (x + 1) (by omega) (by omega) (by omega) (by omega) hv (by omega) (by omega)
    refine ⟨t, ?_, ?_⟩
    ·rw [ref3_Transform_l1, decide_eq_true hlt, ift_true, show (((x : Int)) == p.param) = false from beq_eq_false_iff_ne.2 hxp, ift_false, w64 (by omega) (by omega)]
     exact t1
    ·rw [t2, runesAt, if_pos hlt, show p.param.toNat - x = (p.param.toNat - (x + 1)) + 1 by omega, List.take_succ_cons, List.map_cons, List.flatten_cons, List.take_add, ← List.append_assoc]
     congr 2
     exact henc.symm
  ·refine ⟨v.s, ?_, ?_⟩
   ·rw [ref3_Transform_l1, decide_eq_false hlt, ift_false]
   ·rw [runesAt, if_neg hlt, List.take_nil, List.map_nil, List.flatten_nil, List.append_nil, List.take_of_length_le (by simp; omega)]

theorem cut_same (p : GTransform) (v : GValue) (hk : v.kind = 4) (hs : v.s.size < 1000000) (hp : 0 ≤ p.param) (hv : validD v.s.data.toList = true) :
  table_truncated v p.param = some ⟨v.kind, v.n, v.scale, runesBytes ((runesS v.s).take p.param.toNat), v.items⟩ ∧ ref3_Transform_l1 p v BIG 0 0 = some ⟨v.kind, v.n, v.scale, runesBytes ((runesS v.s).take p.param.toNat), v.items⟩ := by
 have hlen : (runesS v.s).length ≤ v.s.size := runesAt_len v.s v.s.size 0
 refine ⟨?_, ?_⟩
 ·unfold table_truncated
  have hy : ∃ y : Int, (if ((runesS v.s).length : Int) < p.param then ((runesS v.s).length : Int) else p.param) = y ∧ 0 ≤ y ∧ y ≤ ((runesS v.s).length : Int) ∧ (runesS v.s).take y.toNat = (runesS v.s).take p.param.toNat := by
   by_cases h : ((runesS v.s).length : Int) < p.param
   ·rw [if_pos h]; exact ⟨_, rfl, by omega, by omega, by rw [List.take_of_length_le (by omega), List.take_of_length_le (by omega)]⟩
   ·rw [if_neg h]; exact ⟨_, rfl, hp, by omega, rfl⟩
  obtain ⟨y, y1, y2, y3, y4⟩ := hy
  rw [hk, show ((4 : Int) == 4) = true from rfl, ift_true, y1]
  unfold grd
  rw [if_pos (by omega), bnd_eq, if_pos ⟨by omega, y2, y3⟩]
  rw [show ((0 : Int).toNat) = 0 from rfl, Nat.sub_zero, List.drop_zero, y4]
 ·obtain ⟨t, t1, t2⟩ := rune_loop p v hs hp v.s.size BIG v.s.size 0 0 (by omega) (by omega) (by rw [big_val]; omega) (by omega) hv (by omega) (by omega)
  rw [show (0 : Int) = ((0 : Nat) : Int) from rfl, t1]
  unfold ref3_Transform_j2
  congr 2
  refine ba_ext ?_
  rw [t2, runesBytes_list, List.take_zero, List.nil_append, Nat.sub_zero]
  rfl

end Go.Proofs.YtmaemlebpjnmoaaGreatDoor
namespace Go.Proofs.YtmaemlebpjnmoaaGreatDoor
open Go Go.SX Go.SX.Cal Go.Lib
set_option linter.unusedVariables false
set_option linter.unusedSimpArgs false

theorem leafTab (t : GType) : table_leaf t = some (decide (t.kind ≠ 6 ∧ t.kind ≠ 7)) := by
 unfold table_leaf table_leaf_j1
 by_cases h6 : t.kind = 6 <;> by_cases h7 : t.kind = 7 <;> simp [h6, h7, ift_ite]

def nulT : GType := ⟨0, 0, []⟩
def ttR (p : GTransform) (t : GType) : GType × Int :=
 if t.kind = 6 ∨ t.kind = 7 then (nulT, 2) else if p.kind = 3 ∧ t.kind ≠ 2 ∧ t.kind ≠ 3 ∧ t.kind ≠ 4 then (nulT, 2) else if 4 ≤ p.kind ∧ t.kind ≠ 5 then (nulT, 2)
 else if p.kind = 2 ∨ 4 ≤ p.kind then (⟨2, 0, []⟩, 0) else (t, 0)
def ttS (p : GTransform) (t : GType) (e : Int) : GType × Int :=
 if e ≠ 0 then (nulT, e) else if p.kind < 0 ∨ 7 < p.kind then (nulT, 3)
 else if p.kind = 2 ∨ p.kind = 3 then (if p.param < 1 ∨ 1000000 < p.param then (nulT, 3) else ttR p t) else if p.param ≠ 0 then (nulT, 3) else ttR p t

theorem tab4 (p : GTransform) (t : GType) : table_TransformType_j4 p t = some (ttR p t) := by
 unfold table_TransformType_j4 table_TransformType_j5 table_TransformType_j6 table_TransformType_j7 ttR nulT
 rw [leafTab]
 simp only [bnd_eq, ift_ite]
 by_cases h6 : t.kind = 6
 ·simp [h6]
 by_cases h7 : t.kind = 7
 ·simp [h7]
 by_cases h3 : p.kind = 3
 ·by_cases t2 : t.kind = 2
  ·simp [h6, h7, h3, t2]
  by_cases t3 : t.kind = 3
  ·simp [h6, h7, h3, t2, t3]
  by_cases t4 : t.kind = 4
  ·simp [h6, h7, h3, t2, t3, t4]
  simp [h6, h7, h3, t2, t3, t4]
 ·by_cases h4 : 4 ≤ p.kind
  ·by_cases t5 : t.kind = 5
   ·simp [h6, h7, h3, h4, t5]
   ·simp [h6, h7, h3, h4, t5]
  ·by_cases h2 : p.kind = 2
   ·simp [h6, h7, h3, h4, h2]
   ·simp [h6, h7, h3, h4, h2]

theorem ref2 (p : GTransform) (t : GType) : ref3_TransformType_j2 p t false = some (ttR p t) := by
 unfold ref3_TransformType_j2 ref3_TransformType_j3 ref3_TransformType_j4 ref3_TransformType_j5 ttR nulT
 rw [leafR]
 simp only [bnd_eq, ift_ite]
 by_cases h6 : t.kind = 6
 ·simp [h6]
 by_cases h7 : t.kind = 7
 ·simp [h7]
 by_cases h3 : p.kind = 3
 ·by_cases t2 : t.kind = 2
  ·simp [h6, h7, h3, t2]
  by_cases t3 : t.kind = 3
  ·simp [h6, h7, h3, t2, t3]
  by_cases t4 : t.kind = 4
  ·simp [h6, h7, h3, t2, t3, t4]
  simp [h6, h7, h3, t2, t3, t4]
 ·by_cases h4 : 4 ≤ p.kind
  ·by_cases t5 : t.kind = 5
   ·simp [h6, h7, h3, h4, t5]
   ·simp [h6, h7, h3, h4, t5]
  ·by_cases h2 : p.kind = 2
   ·simp [h6, h7, h3, h4, h2]
   ·simp [h6, h7, h3, h4, h2]

theorem within3 (a b c : Int) : ref3_within a b c = some (decide (b ≤ a ∧ a ≤ c)) := by
 unfold ref3_within ref3_within_j1
 by_cases h1 : b ≤ a <;> by_cases h2 : a ≤ c <;> simp [h1, h2, ift_ite]

theorem tt (p : GTransform) (t : GType) (hs : sizeT t < 1000000000) : ∃ e, (e = 0 → V t) ∧ table_TransformType p t = some (ttS p t e) ∧ ref3_TransformType p t = some (ttS p t e) := by
 obtain ⟨e, h1, h2, h3⟩ := checkType_eq t hs
 refine ⟨e, h3, ?_, ?_⟩
 ·unfold table_TransformType ttS
  rw [h1]
  by_cases he : e = 0
  ·subst he
   unfold table_TransformType_j1 table_TransformType_j2 table_TransformType_j3
   rw [tab4]
   simp only [bnd_eq, ift_ite, nulT]
   by_cases k0 : p.kind < 0
   ·simp [k0]
   by_cases k7 : 7 < p.kind
   ·simp [k0, k7]
   by_cases k2 : p.kind = 2
   ·by_cases m1 : p.param < 1
    ·simp [k0, k7, k2, m1]
    by_cases m2 : 1000000 < p.param
    ·simp [k0, k7, k2, m1, m2]
    simp [k0, k7, k2, m1, m2]
   by_cases k3 : p.kind = 3
   ·by_cases m1 : p.param < 1
    ·simp [k0, k7, k2, k3, m1]
    by_cases m2 : 1000000 < p.param
    ·simp [k0, k7, k2, k3, m1, m2]
    simp [k0, k7, k2, k3, m1, m2]
   by_cases m0 : p.param = 0
   ·simp [k0, k7, k2, k3, m0]
   ·simp [k0, k7, k2, k3, m0]
  ·simp [he, ift_ite, bnd_eq, nulT]
 ·unfold ref3_TransformType ttS
  rw [h2]
  by_cases he : e = 0
  ·subst he
   unfold ref3_TransformType_j1
   rw [within3, within3]
   have hb : ref3_TransformType_j2 p t true = some (nulT, 3) := rfl
   by_cases k0 : p.kind < 0
   ·simp [k0, ift_ite, bnd_eq, show ¬ (0 : Int) ≤ p.kind by omega, nulT]
   by_cases k7 : 7 < p.kind
   ·simp [k0, k7, ift_ite, bnd_eq, show ¬ p.kind ≤ 7 by omega, nulT]
   have k0' : (0 : Int) ≤ p.kind := by omega
   have k7' : p.kind ≤ 7 := by omega
   by_cases k2 : p.kind = 2
   ·by_cases m1 : p.param < 1
    ·simp [k2, m1, ift_ite, bnd_eq, hb, show ¬ (1 : Int) ≤ p.param by omega]
    by_cases m2 : 1000000 < p.param
    ·simp [k2, m1, m2, ift_ite, bnd_eq, hb, show ¬ p.param ≤ 1000000 by omega]
    simp [k2, m1, m2, ift_ite, bnd_eq, ref2, show (1 : Int) ≤ p.param by omega, show p.param ≤ 1000000 by omega]
   by_cases k3 : p.kind = 3
   ·by_cases m1 : p.param < 1
    ·simp [k3, m1, ift_ite, bnd_eq, hb, show ¬ (1 : Int) ≤ p.param by omega]
    by_cases m2 : 1000000 < p.param
    ·simp [k3, m1, m2, ift_ite, bnd_eq, hb, show ¬ p.param ≤ 1000000 by omega]
    simp [k3, m1, m2, ift_ite, bnd_eq, ref2, show (1 : Int) ≤ p.param by omega, show p.param ≤ 1000000 by omega]
   by_cases m0 : p.param = 0
   ·simp [k0, k7, k0', k7', k2, k3, m0, ift_ite, bnd_eq, ref2]
   ·have hm : (p.param != 0) = true := bne_iff_ne.2 m0
    simp [k0, k7, k0', k7', k2, k3, m0, hm, ift_ite, bnd_eq, hb]
  ·simp [he, ift_ite, bnd_eq, nulT]

theorem V_leaf {t : GType} (h : V t) (h6 : t.kind ≠ 6) (h7 : t.kind ≠ 7) : t.fields = [] ∧ 1 ≤ t.kind ∧ t.kind ≤ 7 := by
 obtain ⟨_, h1, _⟩ := h
 unfold shp at h1
 split at h1
 ·omega
 ·rename_i hk
  split at h1
  ·omega
  ·unfold vf at h1
   rw [if_neg h6, if_pos h7] at h1
   split at h1
   ·omega
   ·rename_i hl
    exact ⟨List.eq_nil_of_length_eq_zero (by omega), by omega, by omega⟩

structure TOk (p : GTransform) (t : GType) : Prop where
 v : V t
 k6 : t.kind ≠ 6
 k7 : t.kind ≠ 7
 lo : 0 ≤ p.kind
 hi : p.kind ≤ 7
 par : p.kind = 2 ∨ p.kind = 3 → 1 ≤ p.param ∧ p.param ≤ 1000000
 cut : p.kind = 3 → t.kind = 2 ∨ t.kind = 3 ∨ t.kind = 4
 tim : 4 ≤ p.kind → t.kind = 5

theorem ttS_ok {p : GTransform} {t : GType} {e : Int} (hv : e = 0 → V t) (h : (ttS p t e).2 = 0) : TOk p t := by
 unfold ttS ttR at h
 by_cases he : e = 0
 ·subst he
  rw [if_neg (by decide)] at h
  by_cases hk : p.kind < 0 ∨ 7 < p.kind
  ·rw [if_pos hk] at h; exact absurd h (by decide)
  rw [if_neg hk] at h
  have fin : (if t.kind = 6 ∨ t.kind = 7 then (nulT, (2 : Int)) else if p.kind = 3 ∧ t.kind ≠ 2 ∧ t.kind ≠ 3 ∧ t.kind ≠ 4 then (nulT, 2) else if 4 ≤ p.kind ∧ t.kind ≠ 5 then (nulT, 2) else if p.kind = 2 ∨ 4 ≤ p.kind then (⟨2, 0, []⟩, 0) else (t, 0)).2 = 0 →
    t.kind ≠ 6 ∧ t.kind ≠ 7 ∧ (p.kind = 3 → t.kind = 2 ∨ t.kind = 3 ∨ t.kind = 4) ∧ (4 ≤ p.kind → t.kind = 5) := fun h => by
   by_cases a : t.kind = 6 ∨ t.kind = 7
   ·rw [if_pos a] at h; exact absurd h (by decide)
   rw [if_neg a] at h
   by_cases b : p.kind = 3 ∧ t.kind ≠ 2 ∧ t.kind ≠ 3 ∧ t.kind ≠ 4
   ·rw [if_pos b] at h; exact absurd h (by decide)
   rw [if_neg b] at h
   by_cases c : 4 ≤ p.kind ∧ t.kind ≠ 5
   ·rw [if_pos c] at h; exact absurd h (by decide)
   exact ⟨by omega, by omega, by omega, by omega⟩
  by_cases h23 : p.kind = 2 ∨ p.kind = 3
  ·rw [if_pos h23] at h
   by_cases hm : p.param < 1 ∨ 1000000 < p.param
   ·rw [if_pos hm] at h; exact absurd h (by decide)
   rw [if_neg hm] at h
   obtain ⟨a, b, c, d⟩ := fin h
   exact ⟨hv rfl, a, b, by omega, by omega, fun _ => by omega, c, d⟩
  ·rw [if_neg h23] at h
   by_cases hm : p.param ≠ 0
   ·rw [if_pos hm] at h; exact absurd h (by decide)
   rw [if_neg hm] at h
   obtain ⟨a, b, c, d⟩ := fin h
   exact ⟨hv rfl, a, b, by omega, by omega, fun h => absurd h h23, c, d⟩
 ·rw [if_pos he] at h; exact absurd h he

theorem ttS_fields {p : GTransform} {t : GType} {e : Int} (hv : e = 0 → V t) : (ttS p t e).1.fields = [] := by
 by_cases h : (ttS p t e).2 = 0
 ·have k := ttS_ok hv h
  have hf := (V_leaf k.v k.k6 k.k7).1
  unfold ttS ttR nulT
  repeat' split
  all_goals first | rfl | exact hf
 ·unfold ttS ttR nulT at *
  repeat' split
  all_goals first | rfl | skip
  all_goals (exfalso; apply h; simp_all)

end Go.Proofs.YtmaemlebpjnmoaaGreatDoor
namespace Go.Proofs.YtmaemlebpjnmoaaGreatDoor
open Go Go.SX Go.SX.Cal Go.Lib
set_option linter.unusedVariables false
set_option linter.unusedSimpArgs false

def nulV : GValue := ⟨0, 0, 0, ByteArray.empty, []⟩

theorem grd_ok {β : Type} {p : Prop} [Decidable p] {x : Option β} (h : p) : grd p x = x := if_pos h

theorem floor_eq {a b : Int} (hb : 0 < b ∧ b ≤ 1000000) (ha : -999999999999999999 ≤ a ∧ a ≤ 999999999999999999) : table_floor a b = some (a / b) ∧ ref3_down a b = some (a / b) := by
 obtain ⟨b0, b1⟩ := hb
 have hq : a.tdiv b = if 0 ≤ a then a / b else -((-a) / b) := by
  by_cases h : 0 ≤ a
  ·rw [if_pos h, Int.tdiv_eq_ediv_of_nonneg h]
  ·rw [if_neg h]
   have := Int.neg_tdiv (-a) b
   rw [Int.neg_neg] at this
   rw [this, Int.tdiv_eq_ediv_of_nonneg (by omega)]
 have hm : b * a.tdiv b + a.tmod b = a := Int.mul_tdiv_add_tmod a b
 have hd := Int.mul_ediv_add_emod a b
 have he0 := Int.emod_nonneg a (show b ≠ 0 by omega)
 have he1 := Int.emod_lt_of_pos a b0
 have hle : -999999999999999999 ≤ a.tdiv b ∧ a.tdiv b ≤ 999999999999999999 := by
  rw [hq]
  by_cases h : 0 ≤ a
  ·rw [if_pos h]
   have h1 := Int.ediv_nonneg h (show 0 ≤ b by omega)
   have h2 := Int.ediv_le_self b h
   omega
  ·rw [if_neg h]
   have h1 := Int.ediv_nonneg (show 0 ≤ -a by omega) (show 0 ≤ b by omega)
   have h2 := Int.ediv_le_self b (show 0 ≤ -a by omega)
   omega
 have htm : (a.tmod b < 0 → a / b = a.tdiv b - 1) ∧ (¬ a.tmod b < 0 → a / b = a.tdiv b) ∧ -b < a.tmod b ∧ a.tmod b < b := by
  have h3 : -b < a.tmod b ∧ a.tmod b < b := by
   have h4 := Int.tmod_lt_of_pos a b0
   have h5 : -b < a.tmod b := by
    by_cases h : 0 ≤ a
    ·have := Int.tmod_nonneg b h; omega
    ·have h6 := Int.tmod_lt_of_pos (-a) b0
     rw [Int.neg_tmod] at h6
     omega
   exact ⟨h5, h4⟩
  have key : ∀ q r : Int, b * q + r = a → 0 ≤ r → r < b → a / b = q := fun q r h1 h2 h3 => by
   rw [← h1, Int.add_comm, Int.add_mul_ediv_left _ _ (by omega), Int.ediv_eq_zero_of_lt h2 h3]; omega
  refine ⟨fun h => key _ (a.tmod b + b) (by rw [Int.mul_sub, Int.mul_one]; omega) (by omega) (by omega), fun h => key _ _ hm (by omega) (by omega), h3.1, h3.2⟩
 obtain ⟨t1, t2, t3, t4⟩ := htm
 refine ⟨?_, ?_⟩
 ·unfold table_floor table_floor_j1
  rw [grd_ok (by omega), grd_ok (by omega), w64 (x := a.tdiv b) (by omega) (by omega), w64 (x := a.tdiv b - 1) (by omega) (by omega)]
  by_cases h : a.tmod b < 0
  ·rw [decide_eq_true h, ift_true, t1 h]
  ·rw [decide_eq_false h, ift_false, t2 h]
 ·unfold ref3_down ref3_down_j1
  have hmul : (a.tdiv b) * b = a - a.tmod b := by rw [Int.mul_comm]; omega
  rw [grd_ok (by omega), bnd_eq, w64 (x := a.tdiv b) (by omega) (by omega), hmul, w64 (x := a - a.tmod b) (by omega) (by omega), w64 (x := a.tdiv b - 1) (by omega) (by omega)]
  by_cases h : a.tmod b < 0
  ·rw [decide_eq_true (by omega), ift_true, t1 h]
  ·rw [decide_eq_false (by omega), ift_false, t2 h]

def trV (p : GTransform) (v : GValue) (h y mo : Int) : GValue :=
 if p.kind = 0 then nulV else if p.kind = 1 then v else if p.kind = 2 then ⟨2, h, 0, ByteArray.empty, []⟩
 else if p.kind = 3 then (if v.kind = 4 then ⟨v.kind, v.n, v.scale, runesBytes ((runesS v.s).take p.param.toNat), v.items⟩ else ⟨v.kind, max (-999999999999999999) (v.n / p.param * p.param), v.scale, v.s, v.items⟩)
 else if p.kind = 4 then ⟨2, y - 1970, 0, ByteArray.empty, []⟩ else if p.kind = 5 then ⟨2, 12 * (y - 1970) + mo - 1, 0, ByteArray.empty, []⟩
 else if p.kind = 6 then ⟨2, v.n / 86400, 0, ByteArray.empty, []⟩ else ⟨2, v.n / 3600, 0, ByteArray.empty, []⟩

structure Lf (v : GValue) : Prop where
 k : 1 ≤ v.kind ∧ v.kind ≤ 5
 n : -999999999999999999 ≤ v.n ∧ v.n ≤ 999999999999999999
 it : v.items = []
 txt : v.kind = 4 → v.s.size ≤ 256 ∧ validD v.s.data.toList = true
 nos : v.kind ≠ 4 → v.s.size = 0
 sc : 0 ≤ v.scale ∧ v.scale ≤ 12
 mom : v.kind = 5 → -62135596800 ≤ v.n ∧ v.n ≤ 253402300799

theorem lf_of {v : GValue} (h : soundB v = true) (h6 : v.kind ≠ 6) (h7 : v.kind ≠ 7) (h0 : v.kind ≠ 0) : Lf v := by
 have hp := (sn_of h).pl
 unfold plainOk at hp
 have e0 : ∀ (l : List GValue), ((l.length : Int) == 0) = true → l = [] := fun l h => List.eq_nil_of_length_eq_zero (by have := eq_of_beq h; omega)
 by_cases k1 : v.kind = 1
 ·simp only [k1] at hp; simp at hp
  exact ⟨by omega, by omega, by have := hp.2.2.2; exact List.eq_nil_of_length_eq_zero (by simpa using this), by omega, fun _ => by rw [hp.2.2.1]; rfl, by omega, by omega⟩
 by_cases k2 : v.kind = 2
 ·simp only [k2] at hp; simp at hp
  exact ⟨by omega, by omega, by have := hp.2.2.2; exact List.eq_nil_of_length_eq_zero (by simpa using this), by omega, fun _ => by rw [hp.2.2.1]; rfl, by omega, by omega⟩
 by_cases k3 : v.kind = 3
 ·simp only [k3] at hp; simp at hp
  exact ⟨by omega, by omega, by have := hp.2.2.2; exact List.eq_nil_of_length_eq_zero (by simpa using this), by omega, fun _ => by rw [hp.2.2.1]; rfl, by omega, by omega⟩
 by_cases k4 : v.kind = 4
 ·simp only [k4] at hp; simp [textOk] at hp
  exact ⟨by omega, by omega, by have := hp.2.2; exact List.eq_nil_of_length_eq_zero (by simpa using this), fun _ => ⟨hp.2.1.1, hp.2.1.2.1⟩, fun h => absurd k4 h, by omega, by omega⟩
 by_cases k5 : v.kind = 5
 ·simp only [k5] at hp; simp at hp
  exact ⟨by omega, by omega, by have := hp.2.2.2; exact List.eq_nil_of_length_eq_zero (by simpa using this), by omega, fun _ => by rw [hp.2.2.1]; rfl, by omega, by omega⟩
 simp [k1, k2, k3, k4, k5, h6, h7, h0] at hp

end Go.Proofs.YtmaemlebpjnmoaaGreatDoor
namespace Go.Proofs.YtmaemlebpjnmoaaGreatDoor
open Go Go.SX Go.SX.Cal Go.Lib
set_option linter.unusedVariables false
set_option linter.unusedSimpArgs false

def utc : ByteArray := ByteArray.mk #[117, 116, 99]
def utcZ : GZone := GZone.mk utc 0 0 (GTurn.mk 0 0 0 0) (GTurn.mk 0 0 0 0)

theorem zoneU : value_zone utc = some (utcZ, true) := by kernel_rfl
theorem rzoneU : ref1_zoneOf utc = some (utcZ, true) := by kernel_rfl
theorem aheadU (m : Int) : value_ahead utcZ m = some 0 := rfl
theorem raheadU (m : Int) : ref1_ahead utcZ m = some 0 := rfl

theorem localU {n : Int} (h0 : -62135596800 ≤ n) (h1 : n ≤ 253402300799) : value_Local n utc = some (Tm.civ n, 0) ∧ ref1_Local n utc = some (Tm.civ n, 0) := by
 obtain ⟨y0, y1⟩ := Tm.years_of (s := n) (by omega) (by omega)
 refine ⟨?_, ?_⟩
 ·unfold value_Local
  rw [zoneU, bnd_eq, Bool.not_true, ift_false, Tm.within_eq, bnd_eq, decide_eq_true ⟨h0, h1⟩, Bool.not_true, ift_false, aheadU, bnd_eq, Int.add_zero, w64 (by omega) (by omega), Tm.civil_eq (by omega) (by omega), bnd_eq]
 ·unfold ref1_Local
  rw [rzoneU, bnd_eq, Bool.not_true, ift_false, Tm.rwithin_eq, bnd_eq, decide_eq_true ⟨h0, h1⟩, Bool.not_true, ift_false, raheadU, bnd_eq, Int.add_zero, w64 (by omega) (by omega), Tm.rcivil_eq (by omega) (by omega) y0 y1, bnd_eq]

theorem partU {n : Int} (h0 : -62135596800 ≤ n) (h1 : n ≤ 253402300799) : value_Part n 1 utc = some ((Tm.civ n).year, 0) ∧ value_Part n 2 utc = some ((Tm.civ n).month, 0) := by
 obtain ⟨f, _, _, _⟩ := Tm.civ_ok (s := n) (by omega) (by omega)
 have hd : value_days (Tm.civ n).year (Tm.civ n).month (Tm.civ n).day = some (Cal.days (Tm.civ n).year (Tm.civ n).month (Tm.civ n).day) := Tm.days_eq (by have := f.y0; omega) (by have := f.y1; omega) (by have := f.m0; omega) (by have := f.m1; omega) (by have := f.d0; omega) (by have := f.d1; omega)
 unfold value_Part
 rw [(localU h0 h1).1, bnd_eq, bnd_eq, show ((0 : Int) != 0) = false from rfl, ift_false, ift_false, hd, bnd_eq, bnd_eq]
 exact ⟨rfl, rfl⟩

end Go.Proofs.YtmaemlebpjnmoaaGreatDoor
namespace Go.Proofs.YtmaemlebpjnmoaaGreatDoor
open Go Go.SX Go.SX.Cal Go.Lib
set_option linter.unusedVariables false
set_option linter.unusedSimpArgs false

theorem wrap_in (x : Int) : -9223372036854775808 ≤ IntKind.i64.wrap x ∧ IntKind.i64.wrap x ≤ 9223372036854775807 := by
 rw [show IntKind.i64.wrap x = if 9223372036854775808 ≤ x % 18446744073709551616 then x % 18446744073709551616 - 18446744073709551616 else x % 18446744073709551616 by unfold IntKind.wrap; simp [IntKind.bits, IntKind.signed]]
 split <;> omega

theorem number_eq (q : Int) : table_number q = some ⟨2, q, 0, ByteArray.empty, []⟩ := rfl

theorem size_tt (k s : Int) : sizeT ⟨k, s, []⟩ < 1000000000 := by simp [sizeT, sizeF]

def hsh (p : GTransform) (h : Int) : Int := IntKind.i64.wrap (h.tmod (IntKind.u64.wrap p.param))

theorem cutN {p : GTransform} {v : GValue} (h4 : v.kind ≠ 4) (hm : 1 ≤ p.param ∧ p.param ≤ 1000000) (hn : -999999999999999999 ≤ v.n ∧ v.n ≤ 999999999999999999) :
  table_truncated v p.param = some ⟨v.kind, max (-999999999999999999) (v.n / p.param * p.param), v.scale, v.s, v.items⟩ ∧
  (bnd (ref3_down v.n p.param) fun r5 => bnd (some (decide ((IntKind.i64.wrap (p.param * r5)) < (-999999999999999999 : Int)))) fun y1 => ift y1 (ref3_Transform_j3 v (-999999999999999999 : Int)) (ref3_Transform_j3 v (IntKind.i64.wrap (p.param * r5)))) =
   some ⟨v.kind, max (-999999999999999999) (v.n / p.param * p.param), v.scale, v.s, v.items⟩ := by
 obtain ⟨f1, f2⟩ := floor_eq (a := v.n) (b := p.param) (by omega) hn
 have hd := Int.mul_ediv_add_emod v.n p.param
 have he0 := Int.emod_nonneg v.n (show p.param ≠ 0 by omega)
 have he1 := Int.emod_lt_of_pos v.n (show 0 < p.param by omega)
 have hc : v.n / p.param * p.param = v.n - v.n % p.param := by rw [Int.mul_comm]; omega
 have hc2 : p.param * (v.n / p.param) = v.n - v.n % p.param := by omega
 refine ⟨?_, ?_⟩
 ·unfold table_truncated
  rw [show (v.kind == 4) = false from beq_eq_false_iff_ne.2 h4, ift_false, f1, bnd_eq, hc, w64 (by omega) (by omega), bnd_eq]
  congr 2
  rw [Int.max_def]
  by_cases h : -999999999999999999 > v.n - v.n % p.param
  ·rw [if_pos h, if_neg (by omega)]
  ·rw [if_neg h, if_pos (by omega)]
 ·rw [f2, bnd_eq, hc, hc2, w64 (by omega) (by omega), bnd_eq]
  unfold ref3_Transform_j3
  rw [Int.max_def]
  by_cases h : v.n - v.n % p.param < -999999999999999999
  ·rw [decide_eq_true h, ift_true, if_neg (by omega)]
  ·rw [decide_eq_false h, ift_false, if_pos (by omega)]

theorem tr_core {p : GTransform} {v : GValue} (hl : Lf v) (hk : TOk p ⟨v.kind, v.scale, []⟩) (hv : sizeV v < 10000000) (e : Int) (he : ref3_TransformType p ⟨v.kind, v.scale, []⟩ = some (ttS p ⟨v.kind, v.scale, []⟩ e)) (h0 : (ttS p ⟨v.kind, v.scale, []⟩ e).2 = 0) :
  ∃ h, table_Transform_j1 p v false = some (trV p v (hsh p h) (Tm.civ v.n).year (Tm.civ v.n).month) ∧ ref3_Transform_j1 p v false = some (trV p v (hsh p h) (Tm.civ v.n).year (Tm.civ v.n).month) := by
 obtain ⟨h, g1, g2⟩ := hash_eq v hv
 refine ⟨h, ?_⟩
 obtain ⟨k, m⟩ := p
 have hlo : 0 ≤ k := hk.lo
 have hhi : k ≤ 7 := hk.hi
 have hpar : k = 2 ∨ k = 3 → 1 ≤ m ∧ m ≤ 1000000 := hk.par
 have htim : 4 ≤ k → v.kind = 5 := hk.tim
 have hu : k = 2 ∨ k = 3 → IntKind.u64.wrap m ≠ 0 := fun hh => by
  have := hpar hh
  rw [w64u (by omega) (by omega)]; omega
 -- year and month
 have hj : ∃ y mo, table_Transform_j1 ⟨k, m⟩ v false = table_Transform_j2 ⟨k, m⟩ v y mo ∧ (4 ≤ k → y = (Tm.civ v.n).year ∧ mo = (Tm.civ v.n).month) := by
  unfold table_Transform_j1
  rw [ift_false]
  by_cases h5 : v.kind = 5
  ·obtain ⟨m0, m1⟩ := hl.mom h5
   obtain ⟨p1, p2⟩ := partU m0 m1
   refine ⟨_, _, ?_, fun _ => ⟨rfl, rfl⟩⟩
   rw [h5, show ((5 : Int) == 5) = true from rfl, ift_true]
   rw [show (ByteArray.mk #[117, 116, 99]) = utc from rfl, p1, p2, bnd_eq, bnd_eq]
  ·rw [show (v.kind == 5) = false from beq_eq_false_iff_ne.2 h5, ift_false]
   exact ⟨0, 0, rfl, fun h => absurd (htim h) h5⟩
 obtain ⟨y, mo, j1, j2⟩ := hj
 rw [j1]
 unfold ref3_Transform_j1
 rw [ift_false, he, bnd_eq, h0, show ((0 : Int) != 0) = false from rfl, ift_false]
 unfold table_Transform_j2
 have hk8 : k = 0 ∨ k = 1 ∨ k = 2 ∨ k = 3 ∨ k = 4 ∨ k = 5 ∨ k = 6 ∨ k = 7 := by omega
 have hyb : v.kind = 5 → 0 ≤ (Tm.civ v.n).year ∧ (Tm.civ v.n).year ≤ 10000 ∧ 1 ≤ (Tm.civ v.n).month ∧ (Tm.civ v.n).month ≤ 12 := fun h5 => by
  obtain ⟨m0, m1⟩ := hl.mom h5
  have := Tm.years_of (s := v.n) (by omega) (by omega)
  obtain ⟨f, _⟩ := Tm.civ_ok (s := v.n) (by omega) (by omega)
  exact ⟨this.1, this.2, f.m0, f.m1⟩
 rcases hk8 with rfl | rfl | rfl | rfl | rfl | rfl | rfl | rfl
 ·exact ⟨rfl, rfl⟩
 ·exact ⟨rfl, rfl⟩
 ·refine ⟨?_, ?_⟩
  ·show (bnd (value_Hash v) fun r5 => grd ((IntKind.u64.wrap m) ≠ 0) <| bnd (table_number (IntKind.i64.wrap (r5.tmod (IntKind.u64.wrap m)))) fun r6 => some r6) = _
   rw [g1, bnd_eq, grd_ok (hu (.inl rfl)), number_eq, bnd_eq]; rfl
  ·show (bnd (ref1_Hash v) fun r4 => grd ((IntKind.u64.wrap m) ≠ 0) <| ref3_Transform_j4 (IntKind.i64.wrap (r4.tmod (IntKind.u64.wrap m)))) = _
   rw [g2, bnd_eq, grd_ok (hu (.inl rfl))]; rfl
 ·have hm := hpar (.inr rfl)
  by_cases h4 : v.kind = 4
  ·obtain ⟨t1, t2⟩ := hl.txt h4
   obtain ⟨c1, c2⟩ := cut_same ⟨3, m⟩ v h4 (by omega) (by show 0 ≤ m; omega) t2
   have hx : trV ⟨3, m⟩ v (hsh ⟨3, m⟩ h) (Tm.civ v.n).year (Tm.civ v.n).month = ⟨v.kind, v.n, v.scale, runesBytes ((runesS v.s).take m.toNat), v.items⟩ := if_pos h4
   refine ⟨?_, ?_⟩
   ·show (bnd (table_truncated v m) fun r7 => some r7) = _
    rw [show table_truncated v m = _ from c1, bnd_eq, hx]
   ·show (ift (v.kind == (4 : Int)) _ _) = _
    rw [h4, show ((4 : Int) == 4) = true from rfl, ift_true, c2, hx, h4]
  ·obtain ⟨c1, c2⟩ := cutN (p := ⟨3, m⟩) h4 hm hl.n
   have hx : trV ⟨3, m⟩ v (hsh ⟨3, m⟩ h) (Tm.civ v.n).year (Tm.civ v.n).month = ⟨v.kind, max (-999999999999999999) (v.n / m * m), v.scale, v.s, v.items⟩ := if_neg h4
   refine ⟨?_, ?_⟩
   ·show (bnd (table_truncated v m) fun r7 => some r7) = _
    rw [show table_truncated v m = _ from c1, bnd_eq, hx]
   ·show (ift (v.kind == (4 : Int)) _ _) = _
    rw [show (v.kind == (4 : Int)) = false from beq_eq_false_iff_ne.2 h4, ift_false, hx]
    exact c2
 ·obtain ⟨rfl, rfl⟩ := j2 (by decide)
  obtain ⟨b1, b2, b3, b4⟩ := hyb (htim (by decide))
  obtain ⟨m0, m1⟩ := hl.mom (htim (by decide))
  refine ⟨?_, ?_⟩
  ·show (bnd (table_number (IntKind.i64.wrap ((Tm.civ v.n).year - (1970 : Int)))) fun r8 => some r8) = _
   rw [number_eq, bnd_eq, w64 (by omega) (by omega)]; rfl
  ·show (bnd (ref1_Local v.n utc) fun r8 => ref3_Transform_j4 (IntKind.i64.wrap (r8.1.year - (1970 : Int)))) = _
   rw [(localU m0 m1).2, bnd_eq, w64 (by show _ ≤ (Tm.civ v.n).year - 1970; omega) (by show (Tm.civ v.n).year - 1970 ≤ _; omega)]; rfl
 ·obtain ⟨rfl, rfl⟩ := j2 (by decide)
  obtain ⟨b1, b2, b3, b4⟩ := hyb (htim (by decide))
  obtain ⟨m0, m1⟩ := hl.mom (htim (by decide))
  refine ⟨?_, ?_⟩
  ·show (bnd (some (IntKind.i64.wrap ((12 : Int) * (IntKind.i64.wrap ((Tm.civ v.n).year - (1970 : Int)))))) fun y1 => bnd (table_number (IntKind.i64.wrap ((IntKind.i64.wrap (y1 + (Tm.civ v.n).month)) - (1 : Int)))) fun r9 => some r9) = _
   rw [bnd_eq, w64 (x := (Tm.civ v.n).year - 1970) (by omega) (by omega), w64 (x := 12 * ((Tm.civ v.n).year - 1970)) (by omega) (by omega), w64 (x := 12 * ((Tm.civ v.n).year - 1970) + (Tm.civ v.n).month) (by omega) (by omega), number_eq, bnd_eq, w64 (by omega) (by omega)]; rfl
  ·show (bnd (ref1_Local v.n utc) fun r8 => (bnd (some (IntKind.i64.wrap ((12 : Int) * (IntKind.i64.wrap (r8.1.year - (1970 : Int)))))) fun y2 => ref3_Transform_j4 (IntKind.i64.wrap ((IntKind.i64.wrap (y2 + r8.1.month)) - (1 : Int))))) = _
   rw [(localU m0 m1).2, bnd_eq, bnd_eq]
   show ref3_Transform_j4 (IntKind.i64.wrap ((IntKind.i64.wrap ((IntKind.i64.wrap ((12 : Int) * (IntKind.i64.wrap ((Tm.civ v.n).year - (1970 : Int))))) + (Tm.civ v.n).month)) - (1 : Int))) = _
   rw [w64 (x := (Tm.civ v.n).year - 1970) (by omega) (by omega), w64 (x := 12 * ((Tm.civ v.n).year - 1970)) (by omega) (by omega), w64 (x := 12 * ((Tm.civ v.n).year - 1970) + (Tm.civ v.n).month) (by omega) (by omega), w64 (by omega) (by omega)]; rfl
 ·obtain ⟨f1, f2⟩ := floor_eq (a := v.n) (b := 86400) (by omega) hl.n
  refine ⟨?_, ?_⟩
  ·show (bnd (table_floor v.n (86400 : Int)) fun r10 => bnd (table_number r10) fun r11 => some r11) = _
   rw [f1, bnd_eq, number_eq, bnd_eq]; rfl
  ·show (bnd (ref3_down v.n (86400 : Int)) fun r6 => ref3_Transform_j4 r6) = _
   rw [f2, bnd_eq]; rfl
 ·obtain ⟨f1, f2⟩ := floor_eq (a := v.n) (b := 3600) (by omega) hl.n
  refine ⟨?_, ?_⟩
  ·show (bnd (table_floor v.n (3600 : Int)) fun r10 => bnd (table_number r10) fun r11 => some r11) = _
   rw [f1, bnd_eq, number_eq, bnd_eq]; rfl
  ·show (bnd (ref3_down v.n (3600 : Int)) fun r6 => ref3_Transform_j4 r6) = _
   rw [f2, bnd_eq]; rfl

theorem tr_eq (p : GTransform) (v : GValue) (hv : sizeV v < 10000000) : ∃ x, table_Transform p v = some x ∧ ref3_Transform p v = some x ∧
  (x = nulV ∨ ∃ h, Lf v ∧ TOk p ⟨v.kind, v.scale, []⟩ ∧ x = trV p v (hsh p h) (Tm.civ v.n).year (Tm.civ v.n).month) := by
 obtain ⟨e, hV, t1, t2⟩ := tt p ⟨v.kind, v.scale, []⟩ (size_tt _ _)
 have jt : table_Transform_j1 p v true = some nulV := rfl
 have jr : ref3_Transform_j1 p v true = some nulV := rfl
 have hs := vSound v (by omega)
 have rs := rSound v (by omega)
 unfold table_Transform ref3_Transform
 rw [t1, bnd_eq]
 by_cases h0 : (ttS p ⟨v.kind, v.scale, []⟩ e).2 = 0
 ·have hk := ttS_ok hV h0
  have hl := V_leaf hk.v hk.k6 hk.k7
  have hk0 : v.kind ≠ 0 := by have h := hl.2.1; have : 1 ≤ v.kind := h; omega
  rw [h0, show ((0 : Int) != 0) = false from rfl, ift_false, hs, bnd_eq, show (v.kind == 0) = false from beq_eq_false_iff_ne.2 hk0, ift_false, rs, bnd_eq, leafR, bnd_eq]
  cases hb : soundB v with
  | false => rw [Bool.not_false, ift_true]; exact ⟨_, jt, jr, .inl rfl⟩
  | true =>
   have h6 : v.kind ≠ 6 := hk.k6
   have h7 : v.kind ≠ 7 := hk.k7
   rw [Bool.not_true, ift_false, decide_eq_true (show v.kind ≠ 6 ∧ v.kind ≠ 7 from ⟨h6, h7⟩), Bool.not_true]
   obtain ⟨h, c1, c2⟩ := tr_core (lf_of hb h6 h7 hk0) hk hv e t2 h0
   exact ⟨_, c1, c2, .inr ⟨h, lf_of hb h6 h7 hk0, hk, rfl⟩⟩
 ·rw [show ((ttS p ⟨v.kind, v.scale, []⟩ e).2 != 0) = true from bne_iff_ne.2 h0, ift_true]
  refine ⟨nulV, jt, ?_, .inl rfl⟩
  by_cases hk0 : v.kind = 0
  ·rw [hk0, show ((0 : Int) == 0) = true from rfl, ift_true]; rfl
  ·rw [show (v.kind == 0) = false from beq_eq_false_iff_ne.2 hk0, ift_false, rs, bnd_eq, leafR, bnd_eq]
   have jf : ∀ b, ref3_Transform_j1 p v b = some nulV := fun b => by
    cases b with
    | true => exact jr
    | false =>
     unfold ref3_Transform_j1
     rw [ift_false, t2, bnd_eq, show ((ttS p ⟨v.kind, v.scale, []⟩ e).2 != 0) = true from bne_iff_ne.2 h0, ift_true]; rfl
   cases soundB v with
   | false => exact jr
   | true => exact jf _

end Go.Proofs.YtmaemlebpjnmoaaGreatDoor
namespace Go.Proofs.YtmaemlebpjnmoaaGreatDoor
open Go Go.SX Go.SX.Cal Go.Lib
set_option linter.unusedVariables false
set_option linter.unusedSimpArgs false

theorem ten_ok : table_Transform ⟨3, 10⟩ ⟨2, 13, 0, ByteArray.empty, []⟩ = some ⟨2, 10, 0, ByteArray.empty, []⟩ := by kernel_rfl

theorem fields_nil : ref2_SameFields BIG [] [] = some true := by kernel_rfl

theorem same_self {t : GType} (h : t.fields = []) : law3_sameType t t = some true := by
 unfold law3_sameType law3_sameType_j1
 rw [beq_self_eq_true, ift_true, beq_self_eq_true, ift_true, h, fields_nil, bnd_eq]

structure Sm (x : GValue) : Prop where
 it : x.items = []
 n : -9223372036854775808 ≤ x.n ∧ x.n ≤ 9223372036854775807
 sc : x.kind = 3 → 0 ≤ x.scale ∧ x.scale ≤ 12
 s : x.s.size < 100000000

theorem trV_sm {p : GTransform} {v : GValue} {h : Int} (hl : Lf v) (hk : TOk p ⟨v.kind, v.scale, []⟩) : Sm (trV p v (hsh p h) (Tm.civ v.n).year (Tm.civ v.n).month) := by
 have hn := hl.n
 have hkk := hl.k
 have hsc := hl.sc
 have hpar : p.kind = 2 ∨ p.kind = 3 → 1 ≤ p.param ∧ p.param ≤ 1000000 := hk.par
 have htim : 4 ≤ p.kind → v.kind = 5 := hk.tim
 have hsz : v.s.size ≤ 256 := by
  by_cases h4 : v.kind = 4
  ·exact (hl.txt h4).1
  ·have := hl.nos h4; omega
 have num : ∀ q : Int, -9223372036854775808 ≤ q → q ≤ 9223372036854775807 → Sm ⟨2, q, 0, ByteArray.empty, []⟩ := fun q h1 h2 => ⟨rfl, ⟨h1, h2⟩, fun h => absurd h (by decide : (2 : Int) ≠ 3), (by decide : (0 : Nat) < 100000000)⟩
 unfold trV
 by_cases k0 : p.kind = 0
 ·rw [if_pos k0]
  exact ⟨rfl, by decide, fun h => absurd h (by decide : (0 : Int) ≠ 3), (by decide : (0 : Nat) < 100000000)⟩
 rw [if_neg k0]
 by_cases k1 : p.kind = 1
 ·rw [if_pos k1]
  exact ⟨hl.it, by omega, fun _ => hsc, by omega⟩
 rw [if_neg k1]
 by_cases k2 : p.kind = 2
 ·rw [if_pos k2]
  have := wrap_in (h.tmod (IntKind.u64.wrap p.param))
  exact num _ this.1 this.2
 rw [if_neg k2]
 by_cases k3 : p.kind = 3
 ·rw [if_pos k3]
  have hm := hpar (.inr k3)
  by_cases h4 : v.kind = 4
  ·rw [if_pos h4]
   have hlen : (runesS v.s).length ≤ v.s.size := runesAt_len v.s v.s.size 0
   have hb := runesBytes_size_le ((runesS v.s).take p.param.toNat)
   have ht : ((runesS v.s).take p.param.toNat).length ≤ (runesS v.s).length := by rw [List.length_take]; omega
   exact ⟨hl.it, by show _ ≤ v.n ∧ v.n ≤ _; omega, fun _ => hsc, by show (runesBytes _).size < _; omega⟩
  ·rw [if_neg h4]
   have hd := Int.mul_ediv_add_emod v.n p.param
   have he0 := Int.emod_nonneg v.n (show p.param ≠ 0 by omega)
   have he1 := Int.emod_lt_of_pos v.n (show 0 < p.param by omega)
   have hc : v.n / p.param * p.param = v.n - v.n % p.param := by rw [Int.mul_comm]; omega
   rw [hc]
   exact ⟨hl.it, by show _ ≤ max _ _ ∧ max _ _ ≤ _; omega, fun _ => hsc, by show v.s.size < _; omega⟩
 rw [if_neg k3]
 have h4 : 4 ≤ p.kind := by have := hk.lo; omega
 obtain ⟨m0, m1⟩ := hl.mom (htim h4)
 have hy := Tm.years_of (s := v.n) (by omega) (by omega)
 obtain ⟨f, _⟩ := Tm.civ_ok (s := v.n) (by omega) (by omega)
 have f0 := f.m0
 have f1 := f.m1
 have hy0 : 0 ≤ (Tm.civ v.n).year := hy.1
 have hy1 : (Tm.civ v.n).year ≤ 10000 := hy.2
 split
 ·exact num _ (by omega) (by omega)
 split
 ·exact num _ (by omega) (by omega)
 split
 ·exact num _ (by omega) (by omega)
 ·exact num _ (by omega) (by omega)

theorem tr_sm (p : GTransform) (v : GValue) (hv : sizeV v < 10000000) : ∃ x, table_Transform p v = some x ∧ ref3_Transform p v = some x ∧ Sm x := by
 obtain ⟨x, h1, h2, h3⟩ := tr_eq p v hv
 refine ⟨x, h1, h2, ?_⟩
 rcases h3 with rfl | ⟨h, hl, hk, rfl⟩
 ·exact ⟨rfl, by decide, fun h => absurd h (by decide : (0 : Int) ≠ 3), (by decide : (0 : Nat) < 100000000)⟩
 ·exact trV_sm hl hk

theorem order_self (a : Int) : ref1_order a a = some 0 := by
 unfold ref1_order
 rw [decide_eq_false (Int.lt_irrefl a), ift_false, ift_false]

theorem texts_self (s : ByteArray) (hs : s.size < 100000000) : ref1_texts s s = some 0 := by
 have h : ∀ (m f i : Nat), i + m = s.size → m < f → ref1_texts_l1 s s f (i : Int) = some 0 := by
  intro m
  induction m with
  | zero =>
   intro f i hi hf
   obtain ⟨f, rfl⟩ : ∃ q, f = q + 1 := ⟨f - 1, by omega⟩
   rw [ref1_texts_l1, decide_eq_false (show ¬ (i : Int) < (s.size : Int) by omega), ift_false]
   unfold ref1_texts_j1 ref1_texts_j2
   rw [ift_false, order_self, bnd_eq]
  | succ m ih =>
   intro f i hi hf
   obtain ⟨f, rfl⟩ : ∃ q, f = q + 1 := ⟨f - 1, by omega⟩
   rw [ref1_texts_l1, decide_eq_true (show (i : Int) < (s.size : Int) by omega), ift_true]
   unfold ref1_texts_j1
   rw [ift_true, grd_ok (by omega), grd_ok (by omega), bnd_eq, bne_self_eq_false, ift_false, w64 (by omega) (by omega)]
   exact ih f (i + 1) (by omega) (by omega)
 exact h s.size BIG 0 (by omega) (by rw [big_val]; omega)

theorem dec_self {x : GValue} (h : Sm x) (hk : x.kind = 3) : ref1_decimals x x = some 0 := by
 obtain ⟨w, w1, w2⟩ := rwideOf x.n h.n.1 h.n.2
 have hs := h.sc hk
 obtain ⟨u, u1, u2⟩ := rtens (k := (12 - x.scale).toNat) w2 (by decide) (by omega)
 have ht : ref1_twelve x = some u := by
  unfold ref1_twelve
  rw [w1, bnd_eq, w64 (by omega) (by omega), show 12 - x.scale = ((12 - x.scale).toNat : Int) by omega, u1, bnd_eq]
 have hc : ref1_compareWide u u = some 0 := by
  obtain ⟨r, r1, r2, r3, r4⟩ := most_eq u2.d u2.d u2.t u2.t (by have := u2.l; omega) (by have := u2.l; omega)
  have hs0 : c3 (dval u.d) (dval u.d) = 0 := by unfold c3; rw [if_neg (Int.lt_irrefl _), if_neg (Int.lt_irrefl _)]
  rw [hs0] at r4
  have hr : r = 0 := by
   unfold c3 at r4
   by_cases h1 : r < 0
   ·rw [if_pos h1] at r4; omega
   ·rw [if_neg h1] at r4
    by_cases h2 : 0 < r
    ·rw [if_pos h2] at r4; omega
    ·omega
  subst hr
  unfold ref1_compareWide
  rw [beq_self_eq_true, Bool.not_true, ift_false, r1, bnd_eq]
  cases u.below <;> rfl
 unfold ref1_decimals
 rw [rWithin, bnd_eq, bnd_eq, beq_self_eq_true, Bool.not_true, ift_false, decide_eq_true hs.1, decide_eq_true hs.2, Bool.true_and, ift_true, ht, bnd_eq, bnd_eq, hc, bnd_eq, show ((0 : Int) != 0) = false from rfl, ift_false, order_self, bnd_eq]

theorem cmp_self {x : GValue} (h : Sm x) : ref1_Compare BIG x x = some 0 := by
 obtain ⟨k, hk⟩ : ∃ k, BIG = k + 1 := ⟨BIG - 1, by rw [big_val]⟩
 have hl : ref1_Compare_l1 (ref1_Compare k) x x BIG (0 : Int) = some 0 := by
  rw [hk, ref1_Compare_l1, h.it]
  rw [show decide ((0 : Int) < ((([] : List GValue).length : Nat) : Int)) = false from rfl, ift_false]
  unfold ref1_Compare_j3 ref1_Compare_j4
  rw [ift_false, order_self, bnd_eq]
 have hj : ref1_Compare_j1 (ref1_Compare k) x x = some 0 := by
  unfold ref1_Compare_j1 ref1_Compare_j2
  rw [bne_self_eq_false, ift_false, ift_false, bne_self_eq_false, ift_false, texts_self x.s h.s, bnd_eq, show ((0 : Int) != 0) = false from rfl, ift_false, hl]
 rw [hk, ref1_Compare, beq_self_eq_true, Bool.not_true, ift_false]
 by_cases k0 : x.kind = 0
 ·rw [show (x.kind == 0) = true from beq_iff_eq.2 k0, ift_true]
 ·rw [show (x.kind == 0) = false from beq_eq_false_iff_ne.2 k0, ift_false, bne_self_eq_false, ift_false]
  by_cases k3 : x.kind = 3
  ·rw [show (x.kind == 3) = true from beq_iff_eq.2 k3, ift_true, dec_self h k3, bnd_eq, show ((0 : Int) != 0) = false from rfl, ift_false, hj]
  ·rw [show (x.kind == 3) = false from beq_eq_false_iff_ne.2 k3, ift_false, hj]

theorem law_transforms (p : GTransform) (t : GType) (v : GValue) (ht : sizeT t < 1000000000) (hv : sizeV v < 10000000) : law3_TableTransformsMatchSpec p t v = some true := by
 obtain ⟨e, hV, t1, t2⟩ := tt p t ht
 obtain ⟨x, x1, x2, x3⟩ := tr_sm p v hv
 unfold law3_TableTransformsMatchSpec law3_TableTransformsMatchSpec_j1
 rw [t1, t2, bnd_eq, bnd_eq, show law3_number 13 = some ⟨2, 13, 0, ByteArray.empty, []⟩ from rfl, bnd_eq, ten_ok, bnd_eq, show ((10 : Int) == 10) = true from rfl, ift_true, beq_self_eq_true, ift_true, same_self (ttS_fields hV), bnd_eq, ift_true, x1, bnd_eq, x2, bnd_eq, cmp_self x3, bnd_eq]
 rfl

end Go.Proofs.YtmaemlebpjnmoaaGreatDoor
