/- The calendar, in plain integers. What needs no program: searches, bytes, sizes, words, digits. Sound of both sides. Values and types as they are read. Types of both sides. Types of both sides. Types of both sides. Numbers of 256 bits: what 'times' and 'compare' compute. Comparing numbers of 256 bits. Compare, in plain terms. Compare is a total order. What the reference compares. The reference's Compare, in plain terms; the law 'ValueOrderMatchesSpec'. What the clocks of the program compute. The zones' clocks. The clocks lead back. What the reference computes for civil time. The first characters of texts keep their order. Transform, in plain terms. Transform keeps the order. Values as they are read. Transform keeps the order: the law. -/
import Derived.Lib.ValidU
import Derived.ChangeKeysEq
import Derived.Lib.ValidLaws
import Derived.Test.YtmaemlebpjnmoaaDoorGeB
namespace Go.SX.Cal
open Go
set_option linter.unusedVariables false

theorem w64 {x : Int} (h1 : -9223372036854775808 ≤ x) (h2 : x ≤ 9223372036854775807) : IntKind.i64.wrap x = x := by
 simp only [IntKind.wrap, IntKind.bits, IntKind.signed]
 simp only [Bool.true_and, decide_eq_true_eq, ge_iff_le]
 split <;> omega

/-! ### years of an era -/

def S (y : Int) : Int := 365 * y + y / 4 - y / 100
def F (r : Int) : Int := r - r / 1460 + r / 36524
def yr (r : Int) : Int := (r - r / 1460 + r / 36524 - r / 146096) / 365

theorem table : ((List.range 400).all fun y => decide (F (S (y : Int)) / 365 = y ∧ F (S ((y : Int) + 1) - 1) / 365 = y)) = true := by decide +kernel

theorem table_at {y : Int} (h0 : 0 ≤ y) (h1 : y ≤ 399) : F (S y) / 365 = y ∧ F (S (y + 1) - 1) / 365 = y := by
 have := List.all_eq_true.1 table y.toNat (List.mem_range.2 (by omega))
 have h := of_decide_eq_true this
 rw [Int.toNat_of_nonneg h0] at h
 exact h

theorem F_mono {r s : Int} (h : r ≤ s) : F r ≤ F s := by unfold F; omega

theorem yr_bound {r : Int} (h0 : 0 ≤ r) (h1 : r ≤ 146096) : 0 ≤ yr r ∧ yr r ≤ 399 := by unfold yr; omega

theorem yr_eq {r : Int} (h0 : 0 ≤ r) (h1 : r ≤ 146095) : yr r = F r / 365 := by
 unfold yr F
 have : r / 146096 = 0 := by omega
 rw [this, Int.sub_zero]

def leap (y : Int) : Prop := y % 4 = 0 ∧ (y % 100 ≠ 0 ∨ y % 400 = 0)

instance (y : Int) : Decidable (leap y) := by unfold leap; infer_instance

theorem yr_ok {r : Int} (h0 : 0 ≤ r) (h1 : r ≤ 146096) : S (yr r) ≤ r ∧ r ≤ S (yr r) + 365 ∧ (r = S (yr r) + 365 → leap (yr r + 1)) := by
 obtain ⟨b0, b1⟩ := yr_bound h0 h1
 by_cases hr : r = 146096
 ·subst hr; decide +kernel
 have h2 : r ≤ 146095 := by omega
 have e := yr_eq h0 h2
 generalize yr r = y at *
 have lo : S y ≤ r := by
  apply Classical.byContradiction
  intro hn
  have hy : 1 ≤ y := by
   apply Classical.byContradiction
   intro hy
   have : y = 0 := by omega
   subst this
   simp [S] at hn
   omega
  have t := (table_at (y := y - 1) (by omega) (by omega)).2
  rw [show y - 1 + 1 = y by omega] at t
  have := F_mono (show r ≤ S y - 1 by omega)
  have : F r / 365 ≤ y - 1 := by rw [← t]; exact Int.ediv_le_ediv (by decide) this
  omega
 have hi : r < S (y + 1) ∨ y = 399 := by
  by_cases hy : y = 399
  ·exact .inr hy
  left
  apply Classical.byContradiction
  intro hn
  have t := (table_at (y := y + 1) (by omega) (by omega)).1
  have := F_mono (show S (y + 1) ≤ r by omega)
  have : y + 1 ≤ F r / 365 := by rw [← t]; exact Int.ediv_le_ediv (by decide) this
  omega
 refine ⟨lo, ?_, fun he => ?_⟩
 ·rcases hi with hi | rfl
  ·unfold S at *; omega
  ·simp [S] at *; omega
 ·rcases hi with hi | rfl
  ·unfold S at *
   have h4 : (y + 1) / 4 = y / 4 + 1 ∧ (y + 1) / 100 = y / 100 := by omega
   exact ⟨by omega, .inl (by omega)⟩
  ·simp [S] at *; omega

/-! ### days -/

def mdays (m : Int) : Int := (153 * m + 2) / 5

def days (y m d : Int) : Int :=
 if m ≤ 2 then (y - 1) / 400 * 146097 + S ((y - 1) % 400) + mdays (m + 9) + d - 1 - 719468 else y / 400 * 146097 + S (y % 400) + mdays (m - 3) + d - 1 - 719468

def dim (y m : Int) : Int := if m = 2 then (if leap y then 29 else 28) else if m = 4 ∨ m = 6 ∨ m = 9 ∨ m = 11 then 30 else 31

def date (n : Int) : Int × Int × Int :=
 let era := (n + 719468) / 146097
 let r := (n + 719468) % 146097
 let y := yr r
 let k := r - S y
 let m := (5 * k + 2) / 153
 let d := k - mdays m + 1
 if m + 3 > 12 then (era * 400 + y + 1, m + 3 - 12, d) else (era * 400 + y, m + 3, d)

theorem date_ok (n : Int) : days (date n).1 (date n).2.1 (date n).2.2 = n ∧ 1 ≤ (date n).2.1 ∧ (date n).2.1 ≤ 12 ∧ 1 ≤ (date n).2.2 ∧ (date n).2.2 ≤ dim (date n).1 (date n).2.1 := by
 simp only [date]
 have hr0 : 0 ≤ (n + 719468) % 146097 := by omega
 have hr1 : (n + 719468) % 146097 ≤ 146096 := by omega
 have hn : n + 719468 = (n + 719468) / 146097 * 146097 + (n + 719468) % 146097 := by omega
 generalize (n + 719468) % 146097 = r at *
 generalize (n + 719468) / 146097 = era at *
 obtain ⟨b0, b1⟩ := yr_bound hr0 hr1
 obtain ⟨s0, s1, s2⟩ := yr_ok hr0 hr1
 generalize yr r = y at *
 have hk0 : 0 ≤ r - S y := by omega
 have hk1 : r - S y ≤ 365 := by omega
 have hk2 : r - S y = 365 → leap (y + 1) := fun h => s2 (by omega)
 have hrk : r = S y + (r - S y) := by omega
 generalize r - S y = k at *
 subst hrk
 have hm0 : 0 ≤ (5 * k + 2) / 153 := by omega
 have hm1 : (5 * k + 2) / 153 ≤ 11 := by omega
 have hd : 1 ≤ k - mdays ((5 * k + 2) / 153) + 1 := by unfold mdays; omega
 have hd2 : k ≤ mdays ((5 * k + 2) / 153 + 1) - 1 := by unfold mdays; omega
 generalize hm : (5 * k + 2) / 153 = m at *
 by_cases hc : m + 3 > 12
 ·simp only [hc, if_true]
  have e1 : (era * 400 + y + 1 - 1) / 400 = era := by omega
  have e2 : (era * 400 + y + 1 - 1) % 400 = y := by omega
  refine ⟨?_, by omega, by omega, hd, ?_⟩
  ·unfold days
   rw [if_pos (by omega), e1, e2, show m + 3 - 12 + 9 = m by omega]
   omega
  ·unfold dim
   have hcase : m = 10 ∨ m = 11 := by omega
   rcases hcase with rfl | rfl
   ·simp [mdays] at *; omega
   ·have hL : leap (era * 400 + y + 1) ↔ leap (y + 1) := by unfold leap; omega
    simp only [show (11 : Int) + 3 - 12 = 2 by rfl, if_true]
    by_cases hl : leap (y + 1)
    ·rw [if_pos (hL.2 hl)]; simp [mdays] at *; omega
    ·rw [if_neg (fun h => hl (hL.1 h))]
     have : k ≠ 365 := fun h => hl (hk2 h)
     simp [mdays] at *; omega
 ·simp only [hc, if_false]
  have e1 : (era * 400 + y) / 400 = era := by omega
  have e2 : (era * 400 + y) % 400 = y := by omega
  refine ⟨?_, by omega, by omega, hd, ?_⟩
  ·unfold days
   rw [if_neg (by omega), e1, e2, show m + 3 - 3 = m by omega]
   omega
  ·unfold dim
   rw [if_neg (by omega)]
   have hcase : m = 0 ∨ m = 1 ∨ m = 2 ∨ m = 3 ∨ m = 4 ∨ m = 5 ∨ m = 6 ∨ m = 7 ∨ m = 8 ∨ m = 9 := by omega
   rcases hcase with rfl | rfl | rfl | rfl | rfl | rfl | rfl | rfl | rfl | rfl <;> simp [mdays] at * <;> omega

def E (y : Int) : Int := y / 400 * 146097 + S (y % 400) - 719468

theorem E_leap {y : Int} (h : leap (y + 1)) : E (y + 1) = E y + 366 := by
 unfold E S; unfold leap at h
 by_cases h4 : (y + 1) % 400 = 0
 ·have a1 : (y + 1) / 400 = y / 400 + 1 := by omega
  have a2 : y % 400 = 399 := by omega
  rw [a1, h4, a2]; omega
 ·have a1 : (y + 1) / 400 = y / 400 := by omega
  have a2 : (y + 1) % 400 = y % 400 + 1 := by omega
  rw [a1, a2]
  have hq : 0 ≤ y % 400 ∧ y % 400 ≤ 398 := by omega
  have h5 : (y % 400 + 1) % 4 = 0 := by omega
  have h6 : (y % 400 + 1) % 100 ≠ 0 := by omega
  generalize y % 400 = q at *
  have : (q + 1) / 4 = q / 4 + 1 := by omega
  have : (q + 1) / 100 = q / 100 := by omega
  omega

theorem E_not {y : Int} (h : ¬ leap (y + 1)) : E (y + 1) = E y + 365 := by
 unfold E S; unfold leap at h
 have h4 : (y + 1) % 400 ≠ 0 := by omega
 have a1 : (y + 1) / 400 = y / 400 := by omega
 have a2 : (y + 1) % 400 = y % 400 + 1 := by omega
 rw [a1, a2]
 have hq : 0 ≤ y % 400 ∧ y % 400 ≤ 398 := by omega
 have h5 : (y % 400 + 1) % 4 ≠ 0 ∨ (y % 400 + 1) % 100 = 0 := by omega
 generalize y % 400 = q at *
 by_cases h7 : (q + 1) % 100 = 0
 ·have : (q + 1) / 4 = q / 4 + 1 := by omega
  have : (q + 1) / 100 = q / 100 + 1 := by omega
  omega
 ·have : (q + 1) / 4 = q / 4 := by omega
  have : (q + 1) / 100 = q / 100 := by omega
  omega

theorem days_E (y m d : Int) : days y m d = if m ≤ 2 then E (y - 1) + mdays (m + 9) + d - 1 else E y + mdays (m - 3) + d - 1 := by
 unfold days E; split <;> omega

theorem E_step (y : Int) : (leap (y + 1) ∧ E (y + 1) = E y + 366) ∨ (¬ leap (y + 1) ∧ E (y + 1) = E y + 365) := by
 by_cases h : leap (y + 1)
 ·exact .inl ⟨h, E_leap h⟩
 ·exact .inr ⟨h, E_not h⟩

theorem days_jan (y : Int) : days y 1 1 = E (y - 1) + 306 := by
 rw [days_E, if_pos (by decide)]; simp [mdays]

theorem days_in (y m d : Int) (h0 : 1 ≤ m) (h1 : m ≤ 12) (h2 : 1 ≤ d) (h3 : d ≤ dim y m) : days y 1 1 ≤ days y m 1 ∧ days y m d = days y m 1 + d - 1 ∧ days y m d < days (y + 1) 1 1 := by
 rw [days_jan, days_jan, days_E, days_E, show y + 1 - 1 = y by omega]
 have hE := E_step (y - 1)
 rw [show y - 1 + 1 = y by omega] at hE
 unfold dim at h3
 have hc : m = 1 ∨ m = 2 ∨ m = 3 ∨ m = 4 ∨ m = 5 ∨ m = 6 ∨ m = 7 ∨ m = 8 ∨ m = 9 ∨ m = 10 ∨ m = 11 ∨ m = 12 := by omega
 rcases hE with ⟨hl, hE⟩ | ⟨hl, hE⟩ <;> simp only [hl, if_true, if_false] at h3 <;> rcases hc with rfl | rfl | rfl | rfl | rfl | rfl | rfl | rfl | rfl | rfl | rfl | rfl <;> simp [mdays] at * <;> omega

theorem days_year (y : Int) : days y 1 1 + 365 ≤ days (y + 1) 1 1 ∧ days (y + 1) 1 1 ≤ days y 1 1 + 366 := by
 rw [days_jan, days_jan, show y + 1 - 1 = y by omega]
 have hE := E_step (y - 1)
 rw [show y - 1 + 1 = y by omega] at hE
 omega

theorem days_mono_nat (y : Int) (k : Nat) : days y 1 1 + 365 * k ≤ days (y + k) 1 1 := by
 induction k with
 | zero => simp
 | succ k ih =>
  have := (days_year (y + k)).1
  rw [show y + ((k + 1 : Nat) : Int) = y + k + 1 by omega]
  omega

theorem days_mono {y z : Int} (h : y ≤ z) : days y 1 1 + 365 * (z - y) ≤ days z 1 1 := by
 have := days_mono_nat y (z - y).toNat
 rw [show y + ((z - y).toNat : Int) = z by omega] at this
 omega

theorem year_iff {n y : Int} : (date n).1 = y ↔ days y 1 1 ≤ n ∧ n < days (y + 1) 1 1 := by
 obtain ⟨h1, h2, h3, h4, h5⟩ := date_ok n
 obtain ⟨a1, a2, a3⟩ := days_in _ _ _ h2 h3 h4 h5
 rw [h1] at a2 a3
 constructor
 ·rintro rfl
  exact ⟨by omega, a3⟩
 ·rintro ⟨b1, b2⟩
  apply Classical.byContradiction
  intro hn
  rcases Int.lt_or_gt_of_ne hn with hlt | hgt
  ·have := days_mono (show (date n).1 + 1 ≤ y by omega)
   omega
  ·have := days_mono (show y + 1 ≤ (date n).1 by omega)
   omega

end Go.SX.Cal
namespace Go.SX.Cal
open Go Go.SX Go.Lib
set_option linter.unusedVariables false
set_option linter.unusedSimpArgs false

theorem ift_true {β : Type} (x y : Option β) : ift true x y = x := rfl
theorem ift_false {β : Type} (x y : Option β) : ift false x y = y := rfl
theorem ift_ite {β : Type} (b : Bool) (x y : Option β) : ift b x y = if b = true then x else y := by cases b <;> rfl
theorem big_val : BIG = 1152921504606846976 := rfl

def first (P : Nat → Bool) (i n : Nat) : Option Nat := (List.range' i (n - i)).find? P

theorem first_step {P : Nat → Bool} {i n : Nat} (h : i < n) : first P i n = if P i = true then some i else first P (i + 1) n := by
 unfold first
 rw [show n - i = (n - (i + 1)) + 1 by omega, List.range'_succ, List.find?_cons]
 cases hp : P i <;> simp [hp]

theorem first_end {P : Nat → Bool} {n : Nat} : first P n n = none := by simp [first]

theorem search {β : Type} {f : Nat → Nat → Option β} {n : Nat} {P : Nat → Bool} {A : Nat → Option β} {B : Option β} (hstep : ∀ k i, i < n → f (k + 1) i = if P i = true then A i else f k (i + 1)) (hend : ∀ k, f (k + 1) n = B) :
  ∀ k i, i ≤ n → n - i < k → f k i = (first P i n).elim B A := by
 intro k
 induction k with
 | zero => intro i _ h; omega
 | succ k ih =>
  intro i hi hk
  by_cases h : i = n
  ·subst h
   rw [hend, first_end]; rfl
  ·rw [hstep k i (by omega), first_step (by omega)]
   by_cases hp : P i = true
   ·simp [hp]
   ·simp only [hp, if_false]
    exact ih (i + 1) (by omega) (by omega)

def byt (s : ByteArray) (i : Nat) : Nat := (s.data.toList.getD i 0).toNat

theorem get_byt (s : ByteArray) (i : Nat) (h : i < s.size) : (s.get! i).toNat = byt s i := by
 unfold byt
 have h' : i < s.data.size := h
 have : s.get! i = s.data.toList.getD i 0 := by
  simp only [ByteArray.get!, List.getD, Array.getElem?_toList]
  rw [getElem!_pos s.data i h', Array.getElem?_eq_getElem h']; rfl
 rw [this]

theorem decode_lo (s : ByteArray) (i : Nat) (h : i < s.size) (hb : byt s i < 128) : Utf8.decode s i = (byt s i, 1) := by
 have e := get_byt s i h
 unfold Utf8.decode
 simp [e, hb]

theorem decode_hi (s : ByteArray) (i : Nat) (h : i < s.size) (hb : ¬ byt s i < 128) : 128 ≤ (Utf8.decode s i).1 := by
 have e := get_byt s i h
 unfold Utf8.decode
 simp only [Nat.add_zero, e, if_neg hb, Utf8.runeError]
 repeat' split
 all_goals simp_all
 all_goals omega

theorem size_zero (s : ByteArray) : (s.toList == (ByteArray.mk #[]).toList) = decide (s.size = 0) := by
 rw [ByteArray.toList_eq, ByteArray.toList_eq, Bool.eq_iff_iff]
 show (s.data.toList == []) = true ↔ decide (s.data.size = 0) = true
 rw [← Array.length_toList]
 cases s.data.toList <;> simp

mutual
def sizeT : GType → Nat
 | ⟨_, _, fs⟩ => sizeF fs + 1
def sizeF : List (FieldP GType) → Nat
 | [] => 0
 | f :: l => sizeFd f + sizeF l
def sizeFd : FieldP GType → Nat
 | ⟨_, n, _, t⟩ => n.size + sizeT t + 1
end

theorem sizeF_mem : ∀ {l : List GField} {x : GField}, x ∈ l → sizeFd x ≤ sizeF l
 | [], _, h => by cases h
 | y :: l, x, h => by
  simp only [sizeF]
  rcases List.mem_cons.1 h with rfl | h
  ·omega
  ·have := sizeF_mem h; omega

theorem sizeFd_eq : ∀ x : GField, sizeFd x = x.name.size + sizeT x.type + 1
 | ⟨_, _, _, _⟩ => by simp only [sizeFd]

theorem sizeF_len : ∀ l : List GField, l.length ≤ sizeF l
 | [] => by simp [sizeF]
 | x :: l => by
  have := sizeF_len l
  have := sizeFd_eq x
  simp only [sizeF, List.length_cons]; omega

theorem wrap_succ {i n : Nat} (h : i < n) (hn : n < 1000000000) : IntKind.i64.wrap ((i : Int) + 1) = ((i + 1 : Nat) : Int) := by rw [w64 (by omega) (by omega)]; omega

theorem at_nat {α : Type} {xs : List α} {i : Nat} (h : i < xs.length) : at? xs (i : Int) = some xs[i] := by unfold at?; simp [h]

theorem dec_lt {i n : Nat} (h : i < n) : decide ((i : Int) < (n : Int)) = true := by simp [h]

mutual
def sizeV : GValue → Nat
 | ⟨_, _, _, s, it⟩ => s.size + sizeL it + 1
def sizeL : List GValue → Nat
 | [] => 0
 | x :: l => sizeV x + sizeL l
end

theorem sizeV_eq : ∀ v : GValue, sizeV v = v.s.size + sizeL v.items + 1
 | ⟨_, _, _, _, _⟩ => by simp only [sizeV]

theorem sizeL_mem : ∀ {l : List GValue} {x : GValue}, x ∈ l → sizeV x ≤ sizeL l
 | [], _, h => by cases h
 | y :: l, x, h => by
  simp only [sizeL]
  rcases List.mem_cons.1 h with rfl | h
  ·omega
  ·have := sizeL_mem h; omega

theorem sizeV_pos : ∀ v : GValue, 1 ≤ sizeV v
 | ⟨_, _, _, _, _⟩ => by simp only [sizeV]; omega

theorem sizeL_len : ∀ l : List GValue, l.length ≤ sizeL l
 | [] => by simp [sizeL]
 | x :: l => by
  have := sizeL_len l
  have := sizeV_pos x
  simp only [sizeL, List.length_cons]; omega

theorem ift_and (b x : Bool) : ift b (some x) (some false) = some (b && x) := by cases b <;> rfl
theorem bnd_some' {α β : Type} (a : α) (f : α → Option β) : bnd (some a) f = f a := rfl

theorem first_skip {P : Nat → Bool} {n : Nat} : ∀ (d i : Nat), i + d ≤ n → (∀ j, i ≤ j → j < i + d → P j = false) → first P i n = first P (i + d) n
 | 0, i, _, _ => rfl
 | d + 1, i, h, hP => by
  rw [first_step (by omega), hP i (by omega) (by omega)]
  simp only [Bool.false_eq_true, if_false]
  rw [first_skip d (i + 1) (by omega) (fun j h1 h2 => hP j (by omega) (by omega))]
  congr 1; omega

theorem decode_skip (s : ByteArray) (i : Nat) (h : i < s.size) (hb : ¬ byt s i < 128) :
  1 ≤ (Utf8.decode s i).2 ∧ i + (Utf8.decode s i).2 ≤ s.size ∧ ∀ j, i ≤ j → j < i + (Utf8.decode s i).2 → 128 ≤ byt s j := by
 have e := get_byt s i h
 have one : ∀ j, i ≤ j → j < i + 1 → 128 ≤ byt s j := fun j h1 h2 => by
  have : j = i := by omega
  subst this; omega
 have ct : ∀ k, (decide (i + k < s.size) && (s.get! (i + k)).toNat / 64 == 2) = true → i + k < s.size ∧ 128 ≤ byt s (i + k) := by
  intro k hk
  simp only [Bool.and_eq_true, decide_eq_true_eq, beq_iff_eq] at hk
  rw [get_byt s _ hk.1] at hk
  exact ⟨hk.1, by omega⟩
 unfold Utf8.decode
 simp only [Nat.add_zero, e, if_neg hb]
 split
 ·rename_i h1
  simp only [Bool.and_eq_true] at h1
  obtain ⟨l1, b1⟩ := ct 1 (by simpa using h1.2)
  split
  ·refine ⟨by simp, by simp only; omega, fun j h2 h3 => ?_⟩
   simp only at h3
   by_cases hj : j = i
   ·subst hj; omega
   ·have : j = i + 1 := by omega
    subst this; exact b1
  ·exact ⟨by simp, by simp only; omega, one⟩
 ·split
  ·rename_i h1
   simp only [Bool.and_eq_true] at h1
   obtain ⟨l1, b1⟩ := ct 1 (by simpa using h1.1.2)
   obtain ⟨l2, b2⟩ := ct 2 (by simpa using h1.2)
   split
   ·refine ⟨by simp, by simp only; omega, fun j h2 h3 => ?_⟩
    simp only at h3
    by_cases hj : j = i
    ·subst hj; omega
    ·by_cases hj : j = i + 1
     ·subst hj; exact b1
     ·have : j = i + 2 := by omega
      subst this; exact b2
   ·exact ⟨by simp, by simp only; omega, one⟩
  ·split
   ·rename_i h1
    simp only [Bool.and_eq_true] at h1
    obtain ⟨l1, b1⟩ := ct 1 (by simpa using h1.1.1.2)
    obtain ⟨l2, b2⟩ := ct 2 (by simpa using h1.1.2)
    obtain ⟨l3, b3⟩ := ct 3 (by simpa using h1.2)
    split
    ·refine ⟨by simp, by simp only; omega, fun j h2 h3 => ?_⟩
     simp only at h3
     by_cases hj : j = i
     ·subst hj; omega
     ·by_cases hj : j = i + 1
      ·subst hj; exact b1
      ·by_cases hj : j = i + 2
       ·subst hj; exact b2
       ·have : j = i + 3 := by omega
        subst this; exact b3
    ·exact ⟨by simp, by simp only; omega, one⟩
   ·exact ⟨by simp, by simp only; omega, one⟩

def ctl (s : ByteArray) (i : Nat) : Bool := decide (byt s i < 32) || byt s i == 127

def p10 : Nat → Int
 | 0 => 1
 | k + 1 => p10 k * 10

theorem p10_pos : ∀ k, 1 ≤ p10 k
 | 0 => by decide
 | k + 1 => by have := p10_pos k; simp only [p10]; omega

def c3 (a b : Int) : Int := if a < b then -1 else if b < a then 1 else 0

def zeroW (w : GWide) : Prop := w.size.1 = 0 ∧ w.size.2.1 = 0 ∧ w.size.2.2.1 = 0 ∧ w.size.2.2.2 = 0

theorem bool_ne (n m : Bool) (h : ¬ n = m) : (!(n == m)) = true ∧ (!m) = n := by revert h; cases n <;> cases m <;> simp

def dval : List Int → Int
 | [] => 0
 | d :: l => d + 10 * dval l

def digs (l : List Int) : Prop := ∀ d ∈ l, 0 ≤ d ∧ d ≤ 9

def top (l : List Int) : Prop := ∀ d, l.getLast? = some d → d ≠ 0

theorem dval_nonneg : ∀ {l : List Int}, digs l → 0 ≤ dval l
 | [], _ => by simp [dval]
 | d :: l, h => by
  have h1 := h d (by simp)
  have h2 := dval_nonneg (l := l) (fun x hx => h x (by simp [hx]))
  simp only [dval]; omega

theorem p10n : ∀ n, 0 < p10 n := fun n => by have := p10_pos n; omega

theorem dval_lt : ∀ {l : List Int}, digs l → dval l < p10 l.length
 | [], _ => by simp [dval, p10]
 | d :: l, h => by
  have h1 := h d (by simp)
  have h2 := dval_lt (l := l) (fun x hx => h x (by simp [hx]))
  simp only [dval, List.length_cons, p10]; omega

theorem dval_ge : ∀ {l : List Int}, digs l → top l → l ≠ [] → p10 (l.length - 1) ≤ dval l
 | [], _, _, h => absurd rfl h
 | [d], h, ht, _ => by
  have h1 := h d (by simp)
  have h2 := ht d (by simp)
  simp [dval, p10]; omega
 | d :: e :: l, h, ht, _ => by
  have h1 := h d (by simp)
  have h2 := dval_ge (l := e :: l) (fun x hx => h x (by simp [hx])) (fun x hx => ht x (by simpa using hx)) (by simp)
  simp only [List.length_cons] at h2 ⊢
  rw [show l.length + 1 + 1 - 1 = (l.length + 1 - 1) + 1 by omega]
  simp only [p10]
  rw [dval]
  omega

theorem p10_mono {m n : Nat} (h : m ≤ n) : p10 m ≤ p10 n := by
 induction n with
 | zero =>
   have : m = 0 := by omega
   subst this; exact Int.le_refl _
 | succ n ih =>
  by_cases e : m = n + 1
  ·subst e; exact Int.le_refl _
  ·have h1 := ih (by omega)
   have h2 := p10n n
   simp only [p10]; omega

theorem dval_append : ∀ (l m : List Int), dval (l ++ m) = dval l + p10 l.length * dval m
 | [], m => by simp [dval, p10]
 | d :: l, m => by
  simp only [List.cons_append, dval, dval_append l m, List.length_cons, p10]
  rw [Int.mul_add, ← Int.mul_assoc, Int.mul_comm 10 (p10 l.length)]; omega

theorem dval_zeros (k : Nat) : dval (List.replicate k 0) = 0 := by
 induction k with
 | zero => rfl
 | succ k ih => simp [List.replicate_succ, dval, ih]

end Go.SX.Cal
namespace Go.Proofs.YtmaemlebpjnmoaaDoor
open Go Go.SX Go.SX.Cal Go.Lib
set_option linter.unusedVariables false
set_option linter.unusedSimpArgs false

theorem vtext_loop (s : ByteArray) : ∀ k i, i ≤ s.size → s.size - i < k → value_text_l1 s k i = some (first (ctl s) i s.size).isNone := by
 intro k
 induction k with
 | zero => intro i _ h; omega
 | succ k ih =>
  intro i hi hk
  rw [value_text_l1]
  by_cases h : i = s.size
  ·subst h
   rw [first_end]
   simp only [Nat.lt_irrefl, decide_false, ift_false, value_text_j3]
   rfl
  ·have hlt : i < s.size := by omega
   simp only [hlt, decide_true, ift_true, value_text_j2, ift_ite]
   by_cases hb : byt s i < 128
   ·rw [decode_lo s i hlt hb, first_step hlt]
    by_cases h1 : byt s i < 32
    ·have : ctl s i = true := by simp [ctl, h1]
     simp [this, show ((byt s i : Nat) : Int) < 32 by omega]
    ·have e1 : ¬ ((byt s i : Nat) : Int) < 32 := by omega
     by_cases h2 : byt s i = 127
     ·have : ctl s i = true := by simp [ctl, h2]
      simp [this, h2]
     ·have : ctl s i = false := by simp [ctl, h1, h2]
      have e2 : ¬ ((byt s i : Nat) : Int) = 127 := by omega
      simp only [this, Int.ofNat_eq_natCast, e1, decide_false, Bool.false_eq_true, if_false, beq_iff_eq, e2]
      exact ih (i + 1) (by omega) (by omega)
   ·have h1 := decode_hi s i hlt hb
    obtain ⟨h2, h3, h4⟩ := decode_skip s i hlt hb
    have e1 : ¬ (((Utf8.decode s i).1 : Nat) : Int) < 32 := by omega
    have e2 : ¬ (((Utf8.decode s i).1 : Nat) : Int) = 127 := by omega
    simp only [Int.ofNat_eq_natCast, e1, decide_false, Bool.false_eq_true, if_false, beq_iff_eq, e2]
    rw [ih _ h3 (by omega), first_skip _ i h3 (fun j a b => by
     have := h4 j a b
     simp only [ctl, Bool.or_eq_false_iff, decide_eq_false_iff_not, beq_eq_false_iff_ne]
     omega)]
    simp

theorem rchar_loop (s : ByteArray) (hs : s.size < 1000000000) : ∀ k i, i ≤ s.size → s.size - i < k → ref1_characters_l1 s k (i : Int) = some (first (ctl s) i s.size).isNone := by
 intro k
 induction k with
 | zero => intro i _ h; omega
 | succ k ih =>
  intro i hi hk
  rw [ref1_characters_l1]
  by_cases h : i = s.size
  ·subst h
   rw [first_end]
   simp only [Int.lt_irrefl, decide_false, ift_false, ref1_characters_j3]
   rfl
  ·have hlt : i < s.size := by omega
   have g : (0 : Int) ≤ (i : Int) ∧ (i : Int) < (s.size : Int) := ⟨by omega, by omega⟩
   have e : ((s.data.toList.getD (i : Int).toNat 0).toNat : Int) = (byt s i : Int) := by simp [byt]
   simp only [dec_lt hlt, ift_true, grd, if_pos g, bnd_some', ref1_characters_j2, ift_ite, e]
   rw [first_step hlt, wrap_succ hlt hs]
   by_cases h1 : byt s i < 32
   ·have : ctl s i = true := by simp [ctl, h1]
    simp [this, show ((byt s i : Nat) : Int) < 32 by omega]
   ·have e1 : ¬ ((byt s i : Nat) : Int) < 32 := by omega
    by_cases h2 : byt s i = 127
    ·have : ctl s i = true := by simp [ctl, h2]
     simp [this, h2]
    ·have : ctl s i = false := by simp [ctl, h1, h2]
     have e2 : ¬ ((byt s i : Nat) : Int) = 127 := by omega
     simp only [this, e1, decide_false, Bool.false_eq_true, if_false, beq_iff_eq, e2]
     exact ih (i + 1) (by omega) (by omega)

def textOk (s : ByteArray) : Bool := decide (s.size ≤ 256) && (validD s.data.toList && (first (ctl s) 0 s.size).isNone)

theorem validS (s : ByteArray) (hs : s.size < 1000000000) : utf8_ValidString s = some (validD s.data.toList) := by
 unfold utf8_ValidString grd
 rw [if_pos (by omega)]

theorem vText (s : ByteArray) (hs : s.size < 1000000000) : value_text s = some (textOk s) := by
 unfold value_text value_text_j1 textOk
 rw [validS s hs, vtext_loop s BIG 0 (by omega) (by rw [big_val]; omega)]
 by_cases h : s.size ≤ 256
 ·have : ¬ (256 : Int) < (s.size : Int) := by omega
  simp only [this, h, decide_false, decide_true, ift_false, bnd_some']
  cases validD s.data.toList <;> rfl
 ·have : (256 : Int) < (s.size : Int) := by omega
  simp only [this, h, decide_false, decide_true, ift_true]
  rfl

theorem rChars (s : ByteArray) (hs : s.size < 1000000000) : ref1_characters s = some (textOk s) := by
 have := rchar_loop s hs BIG 0 (by omega) (by rw [big_val]; omega)
 unfold ref1_characters ref1_characters_j1 textOk
 rw [validS s hs, show (0 : Int) = ((0 : Nat) : Int) from rfl, this]
 by_cases h : s.size ≤ 256
 ·have e : ¬ (256 : Int) < (s.size : Int) := by omega
  simp only [e, h, decide_false, decide_true, bnd_some']
  cases validD s.data.toList <;> rfl
 ·have e : (256 : Int) < (s.size : Int) := by omega
  simp only [e, h, decide_false, decide_true, bnd_some']
  cases validD s.data.toList <;> rfl

theorem vWithin (a b c : Int) : value_within a b c = some (decide (b ≤ a) && decide (a ≤ c)) := by
 unfold value_within value_within_j1; exact ift_and _ _
theorem rWithin (a b c : Int) : ref1_within a b c = some (decide (b ≤ a) && decide (a ≤ c)) := by
 unfold ref1_within ref1_within_j1; exact ift_and _ _

def plainOk (v : GValue) : Bool :=
 let bare := v.n == 0 && v.scale == 0
 let noS := decide (v.s.size = 0)
 let noI := ((v.items.length : Int) == 0)
 if v.kind = 0 then bare && (noS && noI)
 else if v.kind = 1 then (decide (0 ≤ v.n) && decide (v.n ≤ 1)) && (v.scale == 0 && (noS && noI))
 else if v.kind = 2 then (decide (-999999999999999999 ≤ v.n) && decide (v.n ≤ 999999999999999999)) && (v.scale == 0 && (noS && noI))
 else if v.kind = 3 then (decide (-999999999999999999 ≤ v.n) && decide (v.n ≤ 999999999999999999)) && ((decide (0 ≤ v.scale) && decide (v.scale ≤ 12)) && (noS && noI))
 else if v.kind = 4 then bare && (textOk v.s && noI)
 else if v.kind = 5 then (decide (-62135596800 ≤ v.n) && decide (v.n ≤ 253402300799)) && (v.scale == 0 && (noS && noI))
 else if v.kind = 6 then bare && (noS && decide ((v.items.length : Int) ≤ 64))
 else if v.kind = 7 then bare && (noS && decide ((0 : Int) < (v.items.length : Int)))
 else false

theorem vPlain (v : GValue) (hs : v.s.size < 1000000000) : value_plain v = some (plainOk v) := by
 have j : ∀ x, value_plain_j1 v x = some (if v.kind = 0 then x && (decide (v.s.size = 0) && ((v.items.length : Int) == 0))
   else if v.kind = 1 then (decide (0 ≤ v.n) && decide (v.n ≤ 1)) && (v.scale == 0 && (decide (v.s.size = 0) && ((v.items.length : Int) == 0)))
   else if v.kind = 2 then (decide (-999999999999999999 ≤ v.n) && decide (v.n ≤ 999999999999999999)) && (v.scale == 0 && (decide (v.s.size = 0) && ((v.items.length : Int) == 0)))
   else if v.kind = 3 then (decide (-999999999999999999 ≤ v.n) && decide (v.n ≤ 999999999999999999)) && ((decide (0 ≤ v.scale) && decide (v.scale ≤ 12)) && (decide (v.s.size = 0) && ((v.items.length : Int) == 0)))
   else if v.kind = 4 then x && (textOk v.s && ((v.items.length : Int) == 0))
   else if v.kind = 5 then (decide (-62135596800 ≤ v.n) && decide (v.n ≤ 253402300799)) && (v.scale == 0 && (decide (v.s.size = 0) && ((v.items.length : Int) == 0)))
   else if v.kind = 6 then x && (decide (v.s.size = 0) && decide ((v.items.length : Int) ≤ 64))
   else if v.kind = 7 then x && (decide (v.s.size = 0) && decide ((0 : Int) < (v.items.length : Int)))
   else false) := by
  intro x
  unfold value_plain_j1 value_plain_j2 value_plain_j3 value_plain_j4 value_plain_j5 value_plain_j6 value_plain_j7 value_plain_j8 value_plain_j9
  simp only [vWithin, vText v.s hs, bnd_some', ift_and, size_zero]
  simp only [ift_ite, beq_iff_eq]
  repeat' split
  all_goals (first | rfl | simp_all)
 unfold value_plain
 rw [j, j]
 unfold plainOk
 cases v.n == 0
 ·simp only [ift_false, Bool.false_and]
 ·simp only [ift_true, Bool.true_and]

theorem rAlone (v : GValue) (hs : v.s.size < 1000000000) : ref1_alone v = some (plainOk v) := by
 have j : ∀ x, ref1_alone_j1 v x = some (if v.kind = 0 then x && (v.n == 0 && v.scale == 0)
   else if v.kind = 1 then x && ((decide (0 ≤ v.n) && decide (v.n ≤ 1)) && v.scale == 0)
   else if v.kind = 2 then x && ((decide (-999999999999999999 ≤ v.n) && decide (v.n ≤ 999999999999999999)) && v.scale == 0)
   else if v.kind = 3 then x && ((decide (-999999999999999999 ≤ v.n) && decide (v.n ≤ 999999999999999999)) && (decide (0 ≤ v.scale) && decide (v.scale ≤ 12)))
   else if v.kind = 4 then ((v.items.length : Int) == 0) && (v.n == 0 && (v.scale == 0 && textOk v.s))
   else if v.kind = 5 then x && ((decide (-62135596800 ≤ v.n) && decide (v.n ≤ 253402300799)) && v.scale == 0)
   else if v.kind = 6 then decide (v.s.size = 0) && (v.n == 0 && (v.scale == 0 && decide ((v.items.length : Int) ≤ 64)))
   else if v.kind = 7 then decide (v.s.size = 0) && (v.n == 0 && (v.scale == 0 && decide ((0 : Int) < (v.items.length : Int))))
   else false) := by
  intro x
  unfold ref1_alone_j1 ref1_alone_j2 ref1_alone_j3 ref1_alone_j4 ref1_alone_j5 ref1_alone_j6 ref1_alone_j7 ref1_alone_j8 ref1_alone_j9
  simp only [rWithin, rChars v.s hs, bnd_some', ift_and, size_zero]
  simp only [ift_ite, beq_iff_eq]
  repeat' split
  all_goals (first | rfl | simp_all)
 unfold ref1_alone
 rw [j, j, size_zero]
 unfold plainOk
 generalize decide (v.s.size = 0) = a
 generalize ((v.items.length : Int) == 0) = b
 generalize textOk v.s = t
 generalize (v.n == 0) = c
 generalize (v.scale == 0) = d
 generalize (decide (0 ≤ v.n) && decide (v.n ≤ 1)) = e1
 generalize (decide (-999999999999999999 ≤ v.n) && decide (v.n ≤ 999999999999999999)) = e2
 generalize (decide (0 ≤ v.scale) && decide (v.scale ≤ 12)) = e3
 generalize (decide (-62135596800 ≤ v.n) && decide (v.n ≤ 253402300799)) = e4
 generalize decide ((v.items.length : Int) ≤ 64) = e5
 generalize decide ((0 : Int) < (v.items.length : Int)) = e6
 cases a <;> simp only [ift_false, ift_true] <;> congr 1 <;> repeat' split
 all_goals (first | rfl | (cases b <;> cases c <;> cases d <;> simp <;> done) | (simp [Bool.and_comm, Bool.and_assoc, Bool.and_left_comm]))

def soundL (f : GValue → Int → Bool × Int) : List GValue → Int → Bool × Int
 | [], z => (true, z)
 | v :: l, z => if (f v z).1 = true then soundL f l (f v z).2 else (false, (f v z).2)

def cnt (v : GValue) (z : Int) : Int := if v.kind = 0 then z else z + 1

def soundD : Nat → GValue → Int → Bool × Int
 | 0, v, z => (false, cnt v z)
 | d + 1, v, z => if 256 < cnt v z ∨ plainOk v = false then (false, cnt v z) else soundL (soundD d) v.items (cnt v z)

def soundB (v : GValue) : Bool := (soundD 4 v 0).1

theorem soundL_le {f : GValue → Int → Bool × Int} : ∀ {l : List GValue} {z : Int}, (∀ v ∈ l, ∀ z, 0 ≤ z → z ≤ 256 → 0 ≤ (f v z).2 ∧ (f v z).2 ≤ 257 ∧ ((f v z).1 = true → (f v z).2 ≤ 256)) → 0 ≤ z → z ≤ 256 →
  0 ≤ (soundL f l z).2 ∧ (soundL f l z).2 ≤ 257 ∧ ((soundL f l z).1 = true → (soundL f l z).2 ≤ 256)
 | [], z, _, h0, h1 => by simp only [soundL]; omega
 | v :: l, z, hf, h0, h1 => by
  obtain ⟨a, b, c⟩ := hf v (by simp) z h0 h1
  simp only [soundL]
  split
  ·rename_i h
   exact soundL_le (fun x hx => hf x (by simp [hx])) a (c h)
  ·exact ⟨a, b, fun h => by cases h⟩

theorem soundD_le : ∀ (d : Nat) (v : GValue) (z : Int), 0 ≤ z → z ≤ 256 → 0 ≤ (soundD d v z).2 ∧ (soundD d v z).2 ≤ 257 ∧ ((soundD d v z).1 = true → (soundD d v z).2 ≤ 256)
 | 0, v, z, h0, h1 => by
  have hc : z ≤ cnt v z ∧ cnt v z ≤ z + 1 := by unfold cnt; split <;> omega
  simp only [soundD]
  exact ⟨by omega, by omega, fun h => by cases h⟩
 | d + 1, v, z, h0, h1 => by
  have hc : z ≤ cnt v z ∧ cnt v z ≤ z + 1 := by unfold cnt; split <;> omega
  simp only [soundD]
  split
  ·exact ⟨by omega, by omega, fun h => by cases h⟩
  ·rename_i h
   have : ¬ 256 < cnt v z := fun e => h (.inl e)
   exact soundL_le (fun x _ => soundD_le d x) (by omega) (by omega)

theorem cnt_wrap (v : GValue) (z : Int) (h0 : 0 ≤ z) (h1 : z ≤ 256) {β : Type} (f : Int → Option β) : ift (v.kind != (0 : Int)) (f (IntKind.i64.wrap (z + 1))) (f z) = f (cnt v z) := by
 rw [w64 (by omega) (by omega)]
 unfold cnt
 by_cases h : v.kind = 0
 ·simp [h, ift_ite]
 ·simp [h, ift_ite]

theorem vsound_loop {d : Nat} (l : Int) (q : GValue → Int → Int → Option (Bool × Int)) (xs : List GValue) (hl : xs.length < 1000000000)
  (hq : ∀ v ∈ xs, ∀ z, 0 ≤ z → z ≤ 256 → q v l z = some (!(soundD d v z).1, (soundD d v z).2)) : ∀ (k i : Nat) (z : Int), i ≤ xs.length → xs.length - i < k → 0 ≤ z → z ≤ 256 →
  ∃ r : Int, slices_IndexFunc_api_Value_api_Value_of_value_sound_1_l1 q xs l k z (i : Int) = some (r, (soundL (soundD d) (xs.drop i) z).2) ∧ decide (0 ≤ r) = !(soundL (soundD d) (xs.drop i) z).1 := by
 intro k
 induction k with
 | zero => intro i z _ h; omega
 | succ k ih =>
  intro i z hi hk h0 h1
  rw [slices_IndexFunc_api_Value_api_Value_of_value_sound_1_l1]
  by_cases h : i = xs.length
  ·subst h
   simp only [Int.lt_irrefl, decide_false, ift_false, List.drop_length, soundL, slices_IndexFunc_api_Value_api_Value_of_value_sound_1_j1]
   exact ⟨-1, rfl, rfl⟩
  ·have hlt : i < xs.length := by omega
   have hm : xs[i] ∈ xs := List.getElem_mem hlt
   simp only [dec_lt hlt, ift_true, at_nat hlt, bnd_some', hq _ hm z h0 h1]
   rw [List.drop_eq_getElem_cons hlt]
   simp only [soundL]
   obtain ⟨a, b, c⟩ := soundD_le d xs[i] z h0 h1
   cases hs : (soundD d xs[i] z).1 with
   | false =>
    simp only [Bool.not_false, ift_true, Bool.false_eq_true, if_false]
    exact ⟨_, rfl, by simp⟩
   | true =>
    simp only [Bool.not_true, ift_false, if_true]
    rw [wrap_succ hlt hl]
    exact ih (i + 1) _ (by omega) (by omega) a (c hs)

theorem vsound_eq : ∀ (d k : Nat) (v : GValue) (z : Int), d ≤ 4 → 4 * d + 4 ≤ k → sizeV v < 1000000000 → 0 ≤ z → z ≤ 256 → value_sound k v (5 - d : Int) z = some (soundD d v z) := by
 intro d
 induction d with
 | zero =>
  intro k v z _ hk hs h0 h1
  obtain ⟨k, rfl⟩ : ∃ q, k = q + 1 := ⟨k - 1, by omega⟩
  rw [value_sound, cnt_wrap v z h0 h1]
  unfold value_sound_j1 value_sound_j2
  simp [soundD, ift_true]
 | succ d ih =>
  intro k v z hd hk hs h0 h1
  obtain ⟨k, rfl⟩ : ∃ q, k = q + 4 := ⟨k - 4, by omega⟩
  have hsz := sizeV_eq v
  have hlen := sizeL_len v.items
  rw [value_sound, cnt_wrap v z h0 h1]
  unfold value_sound_j1 value_sound_j2
  rw [vPlain v (by omega)]
  have e4 : ¬ (4 : Int) < 5 - ((d + 1 : Nat) : Int) := by omega
  have hc : z ≤ cnt v z ∧ cnt v z ≤ z + 1 := by unfold cnt; split <;> omega
  simp only [e4, decide_false, ift_false, soundD, bnd_some']
  by_cases h2 : (256 : Int) < cnt v z
  ·simp [h2, ift_true]
  ·cases hp : plainOk v with
   | false => simp [h2, ift_true, ift_false]
   | true =>
    simp only [h2, decide_false, ift_false, Bool.not_true, false_or, Bool.true_eq_false, if_false]
    have := vsound_loop (d := d) (5 - ((d + 1 : Nat) : Int)) (value_sound_1_s (k + 1)) v.items (by omega) (by
     intro x hx z h0 h1
     have := sizeL_mem hx
     rw [value_sound_1_s, w64 (by omega) (by omega), show (5 - ((d + 1 : Nat) : Int) + 1) = 5 - (d : Int) by omega, ih k x z (by omega) (by omega) (by omega) h0 h1]
     rfl) BIG 0 (cnt v z) (by omega) (by rw [big_val]; omega) (by omega) (by omega)
    obtain ⟨r, e1, e2⟩ := this
    rw [show ((0 : Nat) : Int) = (0 : Int) from rfl] at e1
    rw [slices_ContainsFunc_api_Value_api_Value_of_value_sound_1, slices_IndexFunc_api_Value_api_Value_of_value_sound_1, e1]
    simp only [bnd_some', e2, List.drop_zero, Bool.not_not]

theorem vSound (v : GValue) (hs : sizeV v < 1000000000) : value_Sound v = some (soundB v) := by
 unfold value_Sound soundB
 have := vsound_eq 4 BIG v 0 (by omega) (by rw [big_val]; omega) hs (by omega) (by omega)
 rw [show (5 - ((4 : Nat) : Int)) = (1 : Int) from rfl] at this
 rw [this]; rfl

theorem rsound_loop {d : Nat} (l : Int) (hl0 : 0 ≤ l) (hl1 : l ≤ 100) (q : GValue → Int → Int → Option (Bool × Int)) (v : GValue) (hl : v.items.length < 1000000000)
  (hq : ∀ x ∈ v.items, ∀ z, 0 ≤ z → z ≤ 256 → q x (l + 1) z = some (soundD d x z)) : ∀ (k i : Nat) (z : Int), i ≤ v.items.length → v.items.length - i < k → 0 ≤ z → z ≤ 256 →
  ref1_sound_l1 q v l k z (i : Int) = some (soundL (soundD d) (v.items.drop i) z) := by
 intro k
 induction k with
 | zero => intro i z _ h; omega
 | succ k ih =>
  intro i z hi hk h0 h1
  rw [ref1_sound_l1]
  by_cases h : i = v.items.length
  ·subst h
   simp only [Int.lt_irrefl, decide_false, ift_false, List.drop_length, soundL, ref1_sound_j3]
  ·have hlt : i < v.items.length := by omega
   have hm : v.items[i] ∈ v.items := List.getElem_mem hlt
   rw [w64 (x := l + 1) (by omega) (by omega)]
   simp only [dec_lt hlt, ift_true, at_nat hlt, bnd_some', hq _ hm z h0 h1]
   rw [List.drop_eq_getElem_cons hlt]
   simp only [soundL]
   obtain ⟨a, b, c⟩ := soundD_le d v.items[i] z h0 h1
   cases hs : (soundD d v.items[i] z).1 with
   | false => simp only [Bool.not_false, ift_true, Bool.false_eq_true, if_false]
   | true =>
    simp only [Bool.not_true, ift_false, if_true]
    rw [wrap_succ hlt hl]
    exact ih (i + 1) _ (by omega) (by omega) a (c hs)

theorem rsound_eq : ∀ (d k : Nat) (v : GValue) (z : Int), d ≤ 4 → d + 1 ≤ k → sizeV v < 1000000000 → 0 ≤ z → z ≤ 256 → ref1_sound k v (5 - d : Int) z = some (soundD d v z) := by
 intro d
 induction d with
 | zero =>
  intro k v z _ hk hs h0 h1
  obtain ⟨k, rfl⟩ : ∃ q, k = q + 1 := ⟨k - 1, by omega⟩
  rw [ref1_sound, cnt_wrap v z h0 h1]
  unfold ref1_sound_j1 ref1_sound_j2
  simp [soundD, ift_true]
 | succ d ih =>
  intro k v z hd hk hs h0 h1
  obtain ⟨k, rfl⟩ : ∃ q, k = q + 1 := ⟨k - 1, by omega⟩
  have hsz := sizeV_eq v
  have hlen := sizeL_len v.items
  rw [ref1_sound, cnt_wrap v z h0 h1]
  unfold ref1_sound_j1 ref1_sound_j2
  rw [rAlone v (by omega)]
  have e4 : ¬ (4 : Int) < 5 - ((d + 1 : Nat) : Int) := by omega
  have hc : z ≤ cnt v z ∧ cnt v z ≤ z + 1 := by unfold cnt; split <;> omega
  simp only [e4, decide_false, ift_false, soundD, bnd_some']
  by_cases h2 : (256 : Int) < cnt v z
  ·simp [h2, ift_true]
  ·cases hp : plainOk v with
   | false => simp [h2, ift_true, ift_false]
   | true =>
    simp only [h2, decide_false, ift_false, Bool.not_true, false_or, Bool.true_eq_false, if_false]
    have := rsound_loop (d := d) (5 - ((d + 1 : Nat) : Int)) (by omega) (by omega) (ref1_sound k) v (by omega) (by
     intro x hx z h0 h1
     have := sizeL_mem hx
     rw [show (5 - ((d + 1 : Nat) : Int) + 1) = 5 - (d : Int) by omega]
     exact ih k x z (by omega) (by omega) (by omega) h0 h1) BIG 0 (cnt v z) (by omega) (by rw [big_val]; omega) (by omega) (by omega)
    rw [show ((0 : Nat) : Int) = (0 : Int) from rfl, List.drop_zero] at this
    exact this

theorem rSound (v : GValue) (hs : sizeV v < 1000000000) : ref1_Sound v = some (soundB v) := by
 unfold ref1_Sound soundB
 have := rsound_eq 4 BIG v 0 (by omega) (by rw [big_val]; omega) hs (by omega) (by omega)
 rw [show (5 - ((4 : Nat) : Int)) = (1 : Int) from rfl] at this
 rw [this]; rfl

end Go.Proofs.YtmaemlebpjnmoaaDoor
namespace Go.Proofs.YtmaemlebpjnmoaaDoor
open Go Go.SX Go.SX.Cal
set_option linter.unusedVariables false

theorem sizeL_sum : ∀ l : List GValue, sizeL l = (l.map sizeV).sum
 | [] => by simp [sizeL]
 | x :: l => by simp [sizeL, sizeL_sum l]

theorem sz_mk (k n sc : Int) (s : ByteArray) (it : List GValue) : sizeV ⟨k, n, sc, s, it⟩ ≤ s.size + (it.map sizeV).sum + 6 := by
 simp only [sizeV, sizeL_sum]; omega

theorem arg_value {w : World} {v : Value} {x : GValue} (h : AVRel ⟨fun _ => none, fun _ => False⟩ w [] v (.ag ((GValue.cells x).map .pv))) : AVRel ⟨fun _ => none, fun _ => False⟩ w [] v (.ag [ci x.kind, ci x.n, ci x.scale, cst x.s, cl eValue x.items]) := by
 cases x; exact h

end Go.Proofs.YtmaemlebpjnmoaaDoor
namespace Go.Proofs.YtmaemlebpjnmoaaDoor
open Go Go.SX Go.SX.Cal Go.Lib
set_option linter.unusedVariables false
set_option linter.unusedSimpArgs false

def small (b : Nat) : Bool := decide (97 ≤ b) && decide (b ≤ 122)
def other (b : Nat) : Bool := b == 95 || (decide (48 ≤ b) && decide (b ≤ 57))
def good (b : Nat) : Bool := small b || other b

theorem name1_eq (n : Nat) : value_Name_1 (Int.ofNat n) = some (!good n) := by
 unfold value_Name_1 value_Name_1_j1
 simp only [ift_ite, decide_eq_true_eq, Int.ofNat_eq_natCast]
 repeat' split
 all_goals (rw [Option.some.injEq, Bool.eq_iff_iff]; simp [good, small, other]; omega)

def bad (s : ByteArray) (i : Nat) : Bool := !good (byt s i)

theorem indexFunc_eq (s : ByteArray) : ∀ k i, i ≤ s.size → s.size - i < k → ∃ r, strings_indexFunc_of_value_Name_1_l1 s true k i = some r ∧ (decide (0 ≤ r) = (first (bad s) i s.size).isSome) := by
 intro k
 induction k with
 | zero => intro i _ h; omega
 | succ k ih =>
  intro i hi hk
  rw [strings_indexFunc_of_value_Name_1_l1]
  by_cases h : i = s.size
  ·subst h
   rw [first_end]
   simp only [Nat.lt_irrefl, decide_false, ift_false]
   exact ⟨-1, rfl, rfl⟩
  ·have hlt : i < s.size := by omega
   simp only [hlt, decide_true, ift_true, name1_eq, bnd_eq]
   rw [first_step hlt]
   by_cases hb : byt s i < 128
   ·rw [decode_lo s i hlt hb]
    simp only [bad]
    by_cases hg : good (byt s i) = true
    ·simp only [hg, Bool.not_true, ift_ite]
     obtain ⟨r, h1, h2⟩ := ih (i + 1) (by omega) (by omega)
     exact ⟨r, by simpa using h1, by simpa [bad] using h2⟩
    ·simp only [hg, Bool.not_false, ift_ite]
     exact ⟨_, rfl, by simp⟩
   ·have h1 := decode_hi s i hlt hb
    have g1 : good (Utf8.decode s i).1 = false := by
     generalize (Utf8.decode s i).1 = x at h1
     simp [good, small, other]; omega
    have g2 : bad s i = true := by
     simp [bad, good, small, other]; omega
    simp only [g1, g2, Bool.not_false, ift_ite]
    exact ⟨_, rfl, by simp⟩

def isName (s : ByteArray) : Bool := decide (1 ≤ s.size) && decide (s.size ≤ 24) && small (byt s 0) && (first (bad s) 0 s.size).isNone

theorem vName (s : ByteArray) (hs : s.size < 1000000000) : value_Name s = some (isName s) := by
 obtain ⟨r, h1, h2⟩ := indexFunc_eq s BIG 0 (Nat.zero_le _) (by rw [big_val]; omega)
 unfold value_Name value_Name_j1 strings_ContainsFunc_of_value_Name_1 strings_IndexFunc_of_value_Name_1 strings_indexFunc_of_value_Name_1
 rw [h1, size_zero]
 simp only [bnd_eq, h2, ift_ite]
 by_cases z0 : s.size = 0
 ·simp [z0, isName]
 ·by_cases z1 : 24 < s.size
  ·have : ¬ s.size ≤ 24 := by omega
   simp [z0, z1, isName, this, show (24 : Int) < (s.size : Int) by omega]
  ·have hz : ¬ (24 : Int) < (s.size : Int) := by omega
   have hb : ((s.data.toList.getD (0 : Int).toNat 0).toNat : Int) = (byt s 0 : Int) := rfl
   simp only [z0, decide_false, hz, Bool.false_eq_true, if_false, hb]
   rw [grd_pos (by omega), grd_pos (by omega)]
   simp only [decide_eq_true_eq]
   have : s.size ≤ 24 := by omega
   by_cases q1 : byt s 0 < 97
   ·have : ¬ 97 ≤ byt s 0 := by omega
    simp [show (byt s 0 : Int) < 97 by omega, isName, small, this]
   ·by_cases q2 : 122 < byt s 0
    ·have : ¬ byt s 0 ≤ 122 := by omega
     simp [show ¬ (byt s 0 : Int) < 97 by omega, show (122 : Int) < (byt s 0 : Int) by omega, isName, small, this]
    ·simp [show ¬ (byt s 0 : Int) < 97 by omega, show ¬ (122 : Int) < (byt s 0 : Int) by omega, isName, small, show 1 ≤ s.size by omega, this, show 97 ≤ byt s 0 by omega, show byt s 0 ≤ 122 by omega]

end Go.Proofs.YtmaemlebpjnmoaaDoor
namespace Go.Proofs.YtmaemlebpjnmoaaDoor
open Go Go.SX Go.SX.Cal Go.Lib
set_option linter.unusedVariables false
set_option linter.unusedSimpArgs false

def fnm (fs : List GField) (i : Nat) : ByteArray := (fs[i]?.map (·.name)).getD ByteArray.empty

theorem fnm_at {fs : List GField} {i : Nat} (h : i < fs.length) : fnm fs i = fs[i].name := by simp [fnm, h]

def noName (fs : List GField) (i : Nat) : Bool := !isName (fnm fs i)
def eqN (fs : List GField) (i j : Nat) : Bool := (fnm fs j).toList == (fnm fs i).toList
def twin (fs : List GField) (i : Nat) : Bool := (first (eqN fs i) 0 i).isSome
def badN (fs : List GField) : Bool := (first (noName fs) 0 fs.length).isSome
def dupN (fs : List GField) : Bool := (first (twin fs) 0 fs.length).isSome

structure FsOk (fs : List GField) : Prop where
 len : fs.length < 1000000000
 nam : ∀ f ∈ fs, f.name.size < 1000000000

theorem fsOk_of {fs : List GField} (h : sizeF fs < 1000000000) : FsOk fs :=
 ⟨by have := sizeF_len fs; omega, fun f hf => by have := sizeF_mem hf; have := sizeFd_eq f; omega⟩

theorem eta_f : ∀ f : GField, FieldP.mk f.id f.name f.need (GType.mk f.type.kind f.type.scale f.type.fields) = f
 | ⟨_, _, _, ⟨_, _, _⟩⟩ => rfl
theorem contains1 {fs : List GField} (ho : FsOk fs) : slices_ContainsFunc_api_Field_api_Field_of_value_fields_1 fs = some (badN fs) := by
 have hl := search (f := fun k i => slices_IndexFunc_api_Field_api_Field_of_value_fields_1_l1 fs k (i : Int)) (n := fs.length) (P := noName fs) (A := fun i => some (i : Int)) (B := some (-1)) (fun k i hi => by
   show slices_IndexFunc_api_Field_api_Field_of_value_fields_1_l1 fs (k + 1) (i : Int) = _
   rw [slices_IndexFunc_api_Field_api_Field_of_value_fields_1_l1, dec_lt hi, ift_true, at_nat hi, bnd_eq, value_fields_1, vName _ (ho.nam _ (List.getElem_mem hi)), wrap_succ hi ho.len]
   simp only [bnd_eq, ift_ite, noName, fnm_at hi])
  (fun k => by rw [slices_IndexFunc_api_Field_api_Field_of_value_fields_1_l1]; simp only [Int.lt_irrefl, decide_false, ift_false]; rfl) BIG 0 (Nat.zero_le _) (by rw [big_val]; have := ho.len; omega)
 have hl : slices_IndexFunc_api_Field_api_Field_of_value_fields_1_l1 fs BIG (0 : Int) = _ := hl
 unfold slices_ContainsFunc_api_Field_api_Field_of_value_fields_1 slices_IndexFunc_api_Field_api_Field_of_value_fields_1
 rw [hl]
 unfold badN
 cases first (noName fs) 0 fs.length with
 | none => rfl
 | some j => simp [bnd_eq]

theorem contains2 {fs : List GField} (ho : FsOk fs) {i : Nat} (hi : i < fs.length) : slices_ContainsFunc_api_Field_api_Field_of_value_fields_2 ((fs.drop (0 : Int).toNat).take ((i : Int).toNat - (0 : Int).toNat)) fs[i] = some (twin fs i, fs[i]) := by
 have ep : (fs.drop (0 : Int).toNat).take ((i : Int).toNat - (0 : Int).toNat) = fs.take i := by simp
 rw [ep]
 have hlen : (fs.take i).length = i := by simp; omega
 have hl := search (f := fun k j => slices_IndexFunc_api_Field_api_Field_of_value_fields_2_l1 (fs.take i) k fs[i].id fs[i].name fs[i].need fs[i].type.kind fs[i].type.scale fs[i].type.fields (j : Int)) (n := i) (P := eqN fs i) (A := fun j => some ((j : Int), fs[i])) (B := some (-1, fs[i])) (fun k j hj => by
   have hj' : j < (fs.take i).length := by rw [hlen]; exact hj
   have hjf : j < fs.length := by omega
   show slices_IndexFunc_api_Field_api_Field_of_value_fields_2_l1 (fs.take i) (k + 1) _ _ _ _ _ _ (j : Int) = _
   rw [slices_IndexFunc_api_Field_api_Field_of_value_fields_2_l1, dec_lt hj', ift_true, at_nat hj', bnd_eq, value_fields_2, wrap_succ hj (by have := ho.len; omega)]
   simp only [bnd_eq, ift_ite, eqN, fnm_at hi, fnm_at hjf, List.getElem_take, eta_f])
  (fun k => by
   show slices_IndexFunc_api_Field_api_Field_of_value_fields_2_l1 (fs.take i) (k + 1) _ _ _ _ _ _ (i : Int) = _
   rw [slices_IndexFunc_api_Field_api_Field_of_value_fields_2_l1]; simp only [hlen, Int.lt_irrefl, decide_false, ift_false, slices_IndexFunc_api_Field_api_Field_of_value_fields_2_j1, eta_f]) BIG 0 (Nat.zero_le _) (by rw [big_val]; have := ho.len; omega)
 have hl : slices_IndexFunc_api_Field_api_Field_of_value_fields_2_l1 (fs.take i) BIG _ _ _ _ _ _ (0 : Int) = _ := hl
 unfold slices_ContainsFunc_api_Field_api_Field_of_value_fields_2 slices_IndexFunc_api_Field_api_Field_of_value_fields_2
 rw [hl]
 unfold twin
 cases first (eqN fs i) 0 i with
 | none => rfl
 | some j => simp [bnd_eq]

theorem fields_loop {t : GType} (ho : FsOk t.fields) : value_fields_l1 t BIG (0 : Int) = some (if dupN t.fields = true then 5 else 0) := by
 have hl := search (f := fun k i => value_fields_l1 t k (i : Int)) (n := t.fields.length) (P := twin t.fields) (A := fun _ => some 5) (B := some 0) (fun k i hi => by
   show value_fields_l1 t (k + 1) (i : Int) = _
   rw [value_fields_l1, dec_lt hi, ift_true, at_nat hi, bnd_eq, grd_pos (by omega), contains2 ho hi, wrap_succ hi ho.len]
   simp only [bnd_eq, ift_ite])
  (fun k => by rw [value_fields_l1]; simp only [Int.lt_irrefl, decide_false, ift_false]; rfl) BIG 0 (Nat.zero_le _) (by rw [big_val]; have := ho.len; omega)
 have hl : value_fields_l1 t BIG (0 : Int) = _ := hl
 rw [hl]
 unfold dupN
 cases first (twin t.fields) 0 t.fields.length <;> rfl

def vf (t : GType) : Int :=
 if t.kind = 6 then (if t.fields.length ≠ 1 ∨ (fnm t.fields 0).size ≠ 0 then 1 else 0)
 else if t.kind ≠ 7 then (if 0 < t.fields.length then 1 else 0)
 else if t.fields.length = 0 then 1 else if badN t.fields = true then 4 else if dupN t.fields = true then 5 else 0

def scBad (t : GType) : Prop := t.scale ≠ 0 ∧ (t.kind ≠ 3 ∨ t.scale < 0 ∨ 12 < t.scale)
instance (t : GType) : Decidable (scBad t) := by unfold scBad; infer_instance

def shp (t : GType) : Int := if t.kind < 1 ∨ 7 < t.kind then 3 else if scBad t then 1 else vf t

theorem vFields {t : GType} (ho : FsOk t.fields) : value_fields t = some (vf t) := by
 unfold value_fields value_fields_j1 vf
 rw [contains1 ho, fields_loop ho]
 simp only [bnd_eq, ift_ite]
 by_cases h6 : t.kind = 6
 ·simp only [h6, beq_self_eq_true, if_true]
  by_cases hl : t.fields.length = 1
  ·have : (0 : Nat) < t.fields.length := by omega
   rw [show at? t.fields (0 : Int) = some t.fields[0] from at_nat (i := 0) this]
   simp only [hl, bnd_eq, size_zero, fnm_at this]
   by_cases hz : t.fields[0].name.size = 0 <;> simp [hz]
  ·simp [hl, show ((t.fields.length : Int) = 1) = False from eq_false (by omega)]
 ·by_cases h7 : t.kind = 7
  ·simp [h7]
   by_cases hl : t.fields = []
   ·simp [hl]
   ·simp [hl]
    by_cases hb : badN t.fields = true
    ·simp [hb]
    ·simp [hb]
  ·simp [h6, h7]
   by_cases hl : 0 < t.fields.length
   ·simp [hl]
   ·simp [hl]

end Go.Proofs.YtmaemlebpjnmoaaDoor
namespace Go.Proofs.YtmaemlebpjnmoaaDoor
open Go Go.SX Go.SX.Cal Go.Lib
set_option linter.unusedVariables false
set_option linter.unusedSimpArgs false

theorem leafV (t : GType) : value_leaf t = some (decide (t.kind ≠ 6 ∧ t.kind ≠ 7)) := by
 unfold value_leaf value_leaf_j1
 by_cases h6 : t.kind = 6 <;> by_cases h7 : t.kind = 7 <;> simp [h6, h7, ift_ite]

theorem checkJ2 {t : GType} (ho : FsOk t.fields) (q : GType → Int → GChecker → Option (Int × GChecker)) (l z : Int) :
  value_checker_check_j2 q t l z = if shp t ≠ 0 then some (shp t, ⟨z⟩) else value_checker_check_l1 q t l BIG z 0 := by
 have hj4 : ∀ x, value_checker_check_j4 q t l z x = if x = true then some (1, ⟨z⟩) else if vf t ≠ 0 then some (vf t, ⟨z⟩) else value_checker_check_l1 q t l BIG z 0 := by
  intro x
  unfold value_checker_check_j4
  rw [vFields ho]
  cases x <;> simp [ift_ite, bnd_eq]
 unfold value_checker_check_j2 value_checker_check_j3 shp
 simp only [ift_ite, hj4]
 by_cases a1 : t.kind < 1
 ·simp [a1]
 ·by_cases a2 : 7 < t.kind
  ·simp [a1, a2]
  ·simp only [a1, a2, decide_false, or_self, if_false, Bool.false_eq_true]
   unfold scBad
   by_cases b0 : t.scale = 0
   ·simp [b0]
   ·by_cases h3 : t.kind = 3
    ·by_cases b1 : t.scale < 0
     ·simp [b0, h3, b1]
     ·by_cases b2 : 12 < t.scale
      ·simp [b0, h3, b1, b2]
      ·simp [b0, h3, b1, b2]
    ·simp [b0, h3]

end Go.Proofs.YtmaemlebpjnmoaaDoor
namespace Go.Proofs.YtmaemlebpjnmoaaDoor.Ord
open Go Go.SX Go.SX.Cal
set_option linter.unusedVariables false
set_option linter.unusedSimpArgs false

theorem ift_true {β : Type} (x y : Option β) : ift true x y = x := rfl
theorem ift_false {β : Type} (x y : Option β) : ift false x y = y := rfl
theorem ift_ite {β : Type} (b : Bool) (x y : Option β) : ift b x y = if b = true then x else y := by cases b <;> rfl
theorem big_val : BIG = 1152921504606846976 := rfl

def p10 : Nat → Int
 | 0 => 1
 | k + 1 => p10 k * 10

theorem p10_pos : ∀ k, 1 ≤ p10 k
 | 0 => by decide
 | k + 1 => by have := p10_pos k; simp only [p10]; omega

end Go.Proofs.YtmaemlebpjnmoaaDoor.Ord
namespace Go.Proofs.YtmaemlebpjnmoaaDoor.Ord
open Go Go.SX Go.SX.Cal
set_option linter.unusedVariables false
set_option linter.unusedSimpArgs false

def c3 (a b : Int) : Int := if a < b then -1 else if b < a then 1 else 0

def zeroW (w : GWide) : Prop := w.size.1 = 0 ∧ w.size.2.1 = 0 ∧ w.size.2.2.1 = 0 ∧ w.size.2.2.2 = 0

instance (w : GWide) : Decidable (zeroW w) := by unfold zeroW; infer_instance

theorem bool_ne (n m : Bool) (h : ¬ n = m) : (!(n == m)) = true ∧ (!m) = n := by revert h; cases n <;> cases m <;> simp

end Go.Proofs.YtmaemlebpjnmoaaDoor.Ord
namespace Go.Proofs.YtmaemlebpjnmoaaDoor.Ord
open Go Go.SX Go.SX.Cal
set_option linter.unusedVariables false
set_option linter.unusedSimpArgs false

def or' (x y : Int) : Int := if x ≠ 0 then x else y

def cS (s t : ByteArray) : Int := if Op.bytesLess s.toList t.toList = true then -1 else if s.toList = t.toList then 0 else 1

def inR (sc : Int) : Prop := 0 ≤ sc ∧ sc ≤ 12
instance (sc : Int) : Decidable (inR sc) := by unfold inR; infer_instance
def nulI (k : Int) : Int := if k = 0 then 1 else 0
def ooI (k sc : Int) : Int := if k = 3 ∧ ¬ inR sc then 1 else 0
def vvI (k sc n : Int) : Int := if k = 3 ∧ inR sc then n * p10 (12 - sc).toNat else n

mutual
def cmpV : GValue → GValue → Int
 | ⟨k, n, sc, s, it⟩, b => or' (c3 (nulI k) (nulI b.kind)) (or' (c3 k b.kind) (if k = 0 then 0 else or' (c3 (ooI k sc) (ooI b.kind b.scale)) (or' (c3 (vvI k sc n) (vvI b.kind b.scale b.n)) (or' (c3 sc b.scale) (or' (cS s b.s) (cmpL it b.items))))))
def cmpL : List GValue → List GValue → Int
 | [], m => match m with
  | [] => 0
  | _ :: _ => -1
 | x :: l, m => match m with
  | [] => 1
  | y :: ys => or' (cmpV x y) (cmpL l ys)
end

mutual
def sizeV : GValue → Nat
 | ⟨_, _, _, s, it⟩ => s.size + sizeL it + 1
def sizeL : List GValue → Nat
 | [] => 0
 | x :: l => sizeV x + sizeL l
end

def i64 (x : Int) : Prop := -9223372036854775808 ≤ x ∧ x ≤ 9223372036854775807

mutual
def wfV : GValue → Prop
 | ⟨k, n, sc, _, it⟩ => i64 k ∧ i64 n ∧ i64 sc ∧ wfL it
def wfL : List GValue → Prop
 | [] => True
 | x :: l => wfV x ∧ wfL l
end

theorem wfL_mem : ∀ {l : List GValue} {x : GValue}, wfL l → x ∈ l → wfV x
 | [], _, _, h => by cases h
 | y :: l, x, hw, h => by
  simp only [wfL] at hw
  rcases List.mem_cons.1 h with rfl | h
  ·exact hw.1
  ·exact wfL_mem hw.2 h

theorem sizeL_mem : ∀ {l : List GValue} {x : GValue}, x ∈ l → sizeV x ≤ sizeL l
 | [], _, h => by cases h
 | y :: l, x, h => by
  simp only [sizeL]
  rcases List.mem_cons.1 h with rfl | h
  ·omega
  ·have := sizeL_mem h; omega

theorem sizeV_pos : ∀ v : GValue, 1 ≤ sizeV v
 | ⟨_, _, _, _, _⟩ => by simp only [sizeV]; omega

theorem sizeL_len : ∀ l : List GValue, l.length ≤ sizeL l
 | [] => by simp [sizeL]
 | x :: l => by
  have := sizeL_len l
  have := sizeV_pos x
  simp only [sizeL, List.length_cons]; omega

theorem withinO (a b c : Int) : value_within a b c = some (decide (b ≤ a ∧ a ≤ c)) := by
 unfold value_within value_within_j1
 by_cases h : b ≤ a <;> by_cases k : a ≤ c <;> simp [h, k, ift_ite]

theorem or_zero (y : Int) : or' 0 y = y := by simp [or']
theorem c3_self (a : Int) : c3 a a = 0 := by simp [c3]

end Go.Proofs.YtmaemlebpjnmoaaDoor.Ord
namespace Go.Proofs.YtmaemlebpjnmoaaDoor.Ord
open Go Go.SX Go.SX.Cal
set_option linter.unusedVariables false
set_option linter.unusedSimpArgs false

theorem anti_or {x y x' y' : Int} (h : x = -x') (k : y = -y') : or' x y = -or' x' y' := by
 unfold or'
 by_cases hx : x' = 0
 ·have : x = 0 := by omega
  rw [if_neg (by simp [this]), if_neg (by simp [hx])]; exact k
 ·have : x ≠ 0 := by omega
  rw [if_pos this, if_pos hx]; exact h

theorem anti_c3 (a b : Int) : c3 a b = -c3 b a := by
 unfold c3
 by_cases h1 : a < b <;> by_cases h2 : b < a <;> simp [h1, h2] <;> omega

/-! ### bytes -/

def cB (l m : List UInt8) : Int := if Op.bytesLess l m = true then -1 else if l = m then 0 else 1

theorem cB_cons (a b : UInt8) (l m : List UInt8) : cB (a :: l) (b :: m) = or' (c3 a.toNat b.toNat) (cB l m) := by
 unfold cB or' c3
 simp only [Op.bytesLess, Bool.or_eq_true, Bool.and_eq_true, decide_eq_true_eq, beq_iff_eq, List.cons.injEq]
 by_cases h1 : a < b
 ·have h1' : (a.toNat : Int) < b.toNat := by have := UInt8.lt_iff_toNat_lt.1 h1; omega
  simp [h1, h1']
 ·have h1' : ¬ (a.toNat : Int) < b.toNat := fun h => h1 (UInt8.lt_iff_toNat_lt.2 (by omega))
  by_cases h2 : a = b
  ·subst h2
   simp
  ·have h3 : (b.toNat : Int) < a.toNat := by
    have : a.toNat ≠ b.toNat := fun h => h2 (UInt8.toNat_inj.1 h)
    omega
   simp [h1, h1', h2, h3]

theorem cB_anti : ∀ l m : List UInt8, cB l m = -cB m l
 | [], [] => by decide
 | [], _ :: _ => by simp [cB, Op.bytesLess]
 | _ :: _, [] => by simp [cB, Op.bytesLess]
 | a :: l, b :: m => by
  rw [cB_cons, cB_cons]
  exact anti_or (anti_c3 _ _) (cB_anti l m)

theorem cS_eq (s t : ByteArray) : cS s t = cB s.toList t.toList := rfl

/-! ### values -/

mutual
theorem cmpV_anti : ∀ a b : GValue, cmpV a b = -cmpV b a
 | ⟨k, n, sc, s, it⟩, ⟨k', n', sc', s', it'⟩ => by
  have hL := cmpL_anti it it'
  simp only [cmpV]
  by_cases hk : k = k'
  ·subst hk
   refine anti_or (anti_c3 _ _) (anti_or (anti_c3 _ _) ?_)
   split
   ·rfl
   ·exact anti_or (anti_c3 _ _) (anti_or (anti_c3 _ _) (anti_or (anti_c3 _ _) (anti_or (by rw [cS_eq, cS_eq]; exact cB_anti _ _) hL)))
  ·have e1 : ∀ y, or' (c3 k k') y = c3 k k' := fun y => by
    unfold or'; rw [if_pos (by unfold c3; split <;> (try split) <;> omega)]
   have e2 : ∀ y, or' (c3 k' k) y = c3 k' k := fun y => by
    unfold or'; rw [if_pos (by unfold c3; split <;> (try split) <;> omega)]
   rw [e1, e2]
   exact anti_or (anti_c3 _ _) (anti_c3 _ _)
theorem cmpL_anti : ∀ l m : List GValue, cmpL l m = -cmpL m l
 | [], [] => by simp [cmpL]
 | [], _ :: _ => by simp [cmpL]
 | _ :: _, [] => by simp [cmpL]
 | x :: l, y :: m => by
  have h1 := cmpV_anti x y
  have h2 := cmpL_anti l m
  simp only [cmpL]
  exact anti_or h1 h2
end

theorem cmpV_refl (a : GValue) : cmpV a a = 0 := by
 have := cmpV_anti a a
 omega

end Go.Proofs.YtmaemlebpjnmoaaDoor.Ord
namespace Go.Proofs.YtmaemlebpjnmoaaDoor.Ord
open Go Go.SX Go.SX.Cal
set_option linter.unusedVariables false
set_option linter.unusedSimpArgs false

theorem order_eq (a b : Int) : ref1_order a b = some (c3 a b) := by
 unfold ref1_order c3
 by_cases h : a < b
 ·simp [h, ift_ite]
 ·by_cases k : b < a <;> simp [h, k, ift_ite]

theorem rwithinO (a b c : Int) : ref1_within a b c = some (decide (b ≤ a ∧ a ≤ c)) := withinO a b c

/-! ### digits -/

def dval : List Int → Int
 | [] => 0
 | d :: l => d + 10 * dval l

def digs (l : List Int) : Prop := ∀ d ∈ l, 0 ≤ d ∧ d ≤ 9

def top (l : List Int) : Prop := ∀ d, l.getLast? = some d → d ≠ 0

theorem dval_nonneg : ∀ {l : List Int}, digs l → 0 ≤ dval l
 | [], _ => by simp [dval]
 | d :: l, h => by
  have h1 := h d (by simp)
  have h2 := dval_nonneg (l := l) (fun x hx => h x (by simp [hx]))
  simp only [dval]; omega

theorem p10n : ∀ n, 0 < p10 n := fun n => by have := p10_pos n; omega

theorem dval_lt : ∀ {l : List Int}, digs l → dval l < p10 l.length
 | [], _ => by simp [dval, p10]
 | d :: l, h => by
  have h1 := h d (by simp)
  have h2 := dval_lt (l := l) (fun x hx => h x (by simp [hx]))
  simp only [dval, List.length_cons, p10]; omega

theorem dval_ge : ∀ {l : List Int}, digs l → top l → l ≠ [] → p10 (l.length - 1) ≤ dval l
 | [], _, _, h => absurd rfl h
 | [d], h, ht, _ => by
  have h1 := h d (by simp)
  have h2 := ht d (by simp)
  simp [dval, p10]; omega
 | d :: e :: l, h, ht, _ => by
  have h1 := h d (by simp)
  have h2 := dval_ge (l := e :: l) (fun x hx => h x (by simp [hx])) (fun x hx => ht x (by simpa using hx)) (by simp)
  simp only [List.length_cons] at h2 ⊢
  rw [show l.length + 1 + 1 - 1 = (l.length + 1 - 1) + 1 by omega]
  simp only [p10]
  rw [dval]
  omega

theorem p10_mono {m n : Nat} (h : m ≤ n) : p10 m ≤ p10 n := by
 induction n with
 | zero =>
  have : m = 0 := by omega
  subst this; exact Int.le_refl _
 | succ n ih =>
  by_cases e : m = n + 1
  ·subst e; exact Int.le_refl _
  ·have h1 := ih (by omega)
   have h2 := p10n n
   simp only [p10]; omega

theorem dval_append : ∀ (l m : List Int), dval (l ++ m) = dval l + p10 l.length * dval m
 | [], m => by simp [dval, p10]
 | d :: l, m => by
  simp only [List.cons_append, dval, dval_append l m, List.length_cons, p10]
  rw [Int.mul_add, ← Int.mul_assoc, Int.mul_comm 10 (p10 l.length)]; omega

theorem dval_zeros (k : Nat) : dval (List.replicate k 0) = 0 := by
 induction k with
 | zero => rfl
 | succ k ih => simp [List.replicate_succ, dval, ih]

theorem most_loop {a b : List Int} (ha : digs a) (hb : digs b) (hl : a.length = b.length) (hbig : a.length < 1000000) : ∀ (k i : Nat), i ≤ a.length → i < k → dval (a.drop i) = dval (b.drop i) →
  ∃ r, ref1_most_l1 a b k ((i : Int) - 1) = some r ∧ -9 ≤ r ∧ r ≤ 9 ∧ c3 r 0 = c3 (dval a) (dval b) := by
 intro k
 induction k with
 | zero => intro i h1 h2; omega
 | succ k ih =>
  intro i h1 h2 he
  rw [ref1_most_l1]
  cases i with
  | zero =>
   rw [show decide ((0 : Int) ≤ ((0 : Nat) : Int) - 1) = false from rfl, ift_false]
   simp only [List.drop_zero] at he
   exact ⟨0, rfl, by omega, by omega, by rw [he, c3_self, c3_self]⟩
  | succ i =>
   have hia : i < a.length := by omega
   have hib : i < b.length := by omega
   have e1 : ((i + 1 : Nat) : Int) - 1 = (i : Int) := by omega
   have aa : at? a (i : Int) = some a[i] := by unfold at?; simp [hia]
   have bb : at? b (i : Int) = some b[i] := by unfold at?; simp [hib]
   rw [e1, show decide ((0 : Int) ≤ (i : Int)) = true by simp, ift_true, aa, bb]
   simp only [bnd_eq]
   have da : a.drop i = a[i] :: a.drop (i + 1) := List.drop_eq_getElem_cons hia
   have db : b.drop i = b[i] :: b.drop (i + 1) := List.drop_eq_getElem_cons hib
   have ra := ha a[i] (List.getElem_mem hia)
   have rb := hb b[i] (List.getElem_mem hib)
   by_cases hne : a[i] = b[i]
   ·rw [show (a[i] != b[i]) = false by simp [hne], ift_false, w64 (by omega) (by omega)]
    refine ih i (by omega) (by omega) ?_
    rw [da, db]; simp only [dval]; omega
   ·rw [show (a[i] != b[i]) = true by simp [hne], ift_true, w64 (by omega) (by omega)]
    refine ⟨_, rfl, by omega, by omega, ?_⟩
    have va : dval a = dval (a.take i) + p10 i * dval (a.drop i) := by
     have := dval_append (a.take i) (a.drop i)
     rw [List.take_append_drop, List.length_take, Nat.min_eq_left (by omega)] at this
     exact this
    have vb : dval b = dval (b.take i) + p10 i * dval (b.drop i) := by
     have := dval_append (b.take i) (b.drop i)
     rw [List.take_append_drop, List.length_take, Nat.min_eq_left (by omega)] at this
     exact this
    have la := dval_lt (l := a.take i) (fun x hx => ha x (List.mem_of_mem_take hx))
    have lb := dval_lt (l := b.take i) (fun x hx => hb x (List.mem_of_mem_take hx))
    have na := dval_nonneg (l := a.take i) (fun x hx => ha x (List.mem_of_mem_take hx))
    have nb := dval_nonneg (l := b.take i) (fun x hx => hb x (List.mem_of_mem_take hx))
    rw [List.length_take, Nat.min_eq_left (by omega)] at la lb
    rw [da] at va; rw [db] at vb
    simp only [dval] at va vb
    have hp := p10n i
    have key : p10 i * (a[i] + 10 * dval (a.drop (i + 1))) - p10 i * (b[i] + 10 * dval (b.drop (i + 1))) = p10 i * (a[i] - b[i]) := by
     rw [← Int.mul_sub, he]; congr 1; omega
    unfold c3
    rcases Int.lt_or_gt_of_ne hne with hlt | hgt
    ·have : p10 i * (a[i] - b[i]) ≤ p10 i * (-1) := Int.mul_le_mul_of_nonneg_left (by omega) (by omega)
     rw [if_pos (by omega), if_pos (by omega)]
    ·have : p10 i * 1 ≤ p10 i * (a[i] - b[i]) := Int.mul_le_mul_of_nonneg_left (by omega) (by omega)
     rw [if_neg (by omega), if_pos (by omega), if_neg (by omega), if_pos (by omega)]

theorem most_eq {a b : List Int} (ha : digs a) (hb : digs b) (ta : top a) (tb : top b) (la : a.length < 1000) (lb : b.length < 1000) : ∃ r, ref1_most a b = some r ∧ -1000 ≤ r ∧ r ≤ 1000 ∧ c3 r 0 = c3 (dval a) (dval b) := by
 unfold ref1_most
 by_cases hl : a.length = b.length
 ·rw [show ((a.length : Int) != (b.length : Int)) = false by simp [hl], ift_false, w64 (by omega) (by omega)]
  obtain ⟨r, h1, h2, h3, h4⟩ := most_loop ha hb hl (by omega) BIG a.length (Nat.le_refl _) (by rw [big_val]; omega) (by rw [List.drop_length, hl, List.drop_length])
  exact ⟨r, h1, by omega, by omega, h4⟩
 ·have hne : ((a.length : Int) != (b.length : Int)) = true := by simp; omega
  rw [hne, ift_true, w64 (by omega) (by omega)]
  refine ⟨_, rfl, by omega, by omega, ?_⟩
  have l1 := dval_lt ha
  have l2 := dval_lt hb
  rcases Nat.lt_or_gt_of_ne hl with h | h
  ·have g := dval_ge hb tb (by rintro rfl; simp at h)
   have := p10_mono (show a.length ≤ b.length - 1 by omega)
   unfold c3; rw [if_pos (by omega), if_pos (by omega)]
  ·have g := dval_ge ha ta (by rintro rfl; simp at h)
   have := p10_mono (show b.length ≤ a.length - 1 by omega)
   unfold c3; rw [if_neg (by omega), if_pos (by omega), if_neg (by omega), if_pos (by omega)]

structure RW (r : RWide) (n : Int) : Prop where
 dg : digs r.d
 tp : top r.d
 ln : r.d.length < 100
 vl : (if r.below = true then -dval r.d else dval r.d) = n
 bl : r.below = true → 0 < dval r.d

theorem rcompare_eq {a b : RWide} {m n : Int} (ha : RW a m) (hb : RW b n) : ref1_compareWide a b = some (c3 m n) := by
 obtain ⟨da, ta, la, va, ba⟩ := ha
 obtain ⟨db, tb, lb, vb, bb⟩ := hb
 have pa := dval_nonneg da
 have pb := dval_nonneg db
 obtain ⟨r, h1, h2, h3, h4⟩ := most_eq da db ta tb (by omega) (by omega)
 unfold ref1_compareWide
 rw [h1]
 simp only [bnd_eq]
 have fin : ∀ x : Int, ref1_compareWide_j1 x = some (c3 x 0) := by
  intro x
  unfold ref1_compareWide_j1 c3
  by_cases h : x < 0
  ·simp [h, ift_ite]
  ·by_cases k : 0 < x <;> simp [h, k, ift_ite]
 by_cases hs : a.below = b.below
 ·rw [show (!(a.below == b.below)) = false by simp [hs], ift_false, w64 (by omega) (by omega), fin, fin]
  rw [← hs] at vb
  cases hbel : a.below with
  | true =>
   rw [ift_true]
   rw [hbel] at va vb
   simp only [if_true] at va vb
   congr 1
   subst va; subst vb
   have e : c3 (0 - r) 0 = -c3 r 0 := by unfold c3; by_cases x1 : r < 0 <;> by_cases x2 : 0 < r <;> simp [x1, x2] <;> omega
   have e2 : c3 (-dval a.d) (-dval b.d) = -c3 (dval a.d) (dval b.d) := by unfold c3; by_cases x1 : dval a.d < dval b.d <;> by_cases x2 : dval b.d < dval a.d <;> simp [x1, x2] <;> omega
   rw [e, e2, h4]
  | false =>
   rw [ift_false]
   rw [hbel] at va vb
   simp only [Bool.false_eq_true, if_false] at va vb
   subst va; subst vb
   rw [h4]
 ·have hb2 := (bool_ne a.below b.below hs)
  rw [hb2.1, ift_true]
  cases hbel : a.below with
  | true =>
   have hb0 : b.below = false := by have := hb2.2; rw [hbel] at this; simpa using this
   rw [ift_true]
   rw [hbel] at va; rw [hb0] at vb
   simp only [if_true, Bool.false_eq_true, if_false] at va vb
   have := ba hbel
   unfold c3; rw [if_pos (by omega)]
  | false =>
   have hb0 : b.below = true := by have := hb2.2; rw [hbel] at this; simpa using this
   rw [ift_false]
   rw [hbel] at va; rw [hb0] at vb
   simp only [if_true, Bool.false_eq_true, if_false] at va vb
   have := bb hb0
   unfold c3; rw [if_neg (by omega), if_pos (by omega)]

end Go.Proofs.YtmaemlebpjnmoaaDoor.Ord
namespace Go.Proofs.YtmaemlebpjnmoaaDoor.Ord
open Go Go.SX Go.SX.Cal
set_option linter.unusedVariables false
set_option linter.unusedSimpArgs false

def ab (n : Int) : Int := if n < 0 then -n else n

theorem digs_app {l : List Int} {x : Int} (h : digs l) (hx : 0 ≤ x ∧ x ≤ 9) : digs (l ++ [x]) := by
 intro d hd
 rcases List.mem_append.1 hd with h1 | h1
 ·exact h d h1
 ·simp at h1; subst h1; exact hx

theorem wideOf_loop {n : Int} (hn0 : -9223372036854775808 ≤ n) (hn1 : n ≤ 9223372036854775807) : ∀ (k : Nat) (l : List Int) (m : Int), l.length ≤ 19 → 19 - l.length < k → digs l → (m = 0 → top l) → ab m < p10 (19 - l.length) → -9223372036854775808 ≤ m → m ≤ 9223372036854775807 → ab n = dval l + p10 l.length * ab m →
  ∃ d, ref1_wideOf_l1 n k l m = some ⟨decide (n < 0), d⟩ ∧ digs d ∧ top d ∧ d.length ≤ 19 ∧ dval d = ab n := by
 intro k
 induction k with
 | zero => intro l m h1 h2; omega
 | succ k ih =>
  intro l m hl hk hd ht hm m0 m1 hv
  rw [ref1_wideOf_l1]
  by_cases h0 : m = 0
  ·subst h0
   rw [show ((0 : Int) != 0) = false from rfl, ift_false]
   exact ⟨l, rfl, hd, ht rfl, hl, by simp [ab] at hv ⊢; omega⟩
  ·have hlen : l.length < 19 := by
    apply Classical.byContradiction
    intro hn
    have : l.length = 19 := by omega
    rw [this] at hm
    simp only [Nat.sub_self, p10] at hm
    unfold ab at hm; split at hm <;> omega
   rw [show (m != 0) = true by simp [h0], ift_true]
   have hq : m.tdiv 10 = if m < 0 then -((-m) / 10) else m / 10 := by
    by_cases hneg : m < 0
    ·rw [if_pos hneg]
     have : m = -(-m) := by omega
     rw [this, Int.neg_tdiv, Int.neg_neg, Int.tdiv_eq_ediv_of_nonneg (by omega)]
    ·rw [if_neg hneg, Int.tdiv_eq_ediv_of_nonneg (by omega)]
   have hr : m.tmod 10 = if m < 0 then -((-m) % 10) else m % 10 := by
    by_cases hneg : m < 0
    ·rw [if_pos hneg]
     have : m = -(-m) := by omega
     rw [this, Int.neg_tmod, Int.neg_neg, Int.tmod_eq_emod_of_nonneg (by omega)]
    ·rw [if_neg hneg, Int.tmod_eq_emod_of_nonneg (by omega)]
   have step : ∀ x, x = ab m % 10 → ref1_wideOf_j1 (ref1_wideOf_l1 n k) l m x = ref1_wideOf_l1 n k (l ++ [ab m % 10]) (m.tdiv 10) := by
    intro x hx
    unfold ref1_wideOf_j1
    rw [grd_pos (by omega), hx, w64 (by rw [hq]; split <;> omega) (by rw [hq]; split <;> omega)]
   have hgo : ref1_wideOf_l1 n k (l ++ [ab m % 10]) (m.tdiv 10) = ref1_wideOf_l1 n k (l ++ [ab m % 10]) (m.tdiv 10) := rfl
   have habq : ab (m.tdiv 10) = ab m / 10 := by
    rw [hq]; unfold ab
    by_cases hneg : m < 0
    ·simp only [hneg, if_true]; split <;> omega
    ·simp only [hneg, if_false]; split <;> omega
   have hab0 : 0 ≤ ab m := by unfold ab; split <;> omega
   have hp : p10 (19 - l.length) = p10 (19 - (l ++ [ab m % 10]).length) * 10 := by
    rw [show 19 - l.length = (19 - (l ++ [ab m % 10]).length) + 1 by simp; omega]; rfl
   have nxt := ih (l ++ [ab m % 10]) (m.tdiv 10) (by simp; omega) (by simp; omega) (digs_app hd (by omega)) (fun hz => by
     intro d hdl
     simp at hdl
     subst hdl
     have h1 : ab m / 10 = 0 := by rw [← habq, hz]; rfl
     have h2 : ab m ≠ 0 := by unfold ab; split <;> omega
     omega) (by rw [habq]; rw [hp] at hm; omega) (by rw [hq]; split <;> omega) (by rw [hq]; split <;> omega) (by
     rw [dval_append, List.length_append, List.length_singleton, habq, hv]
     simp only [dval, p10]
     have e : ab m = ab m % 10 + 10 * (ab m / 10) := by omega
     have e2 : p10 l.length * ab m = p10 l.length * (ab m % 10) + p10 l.length * 10 * (ab m / 10) := by
      rw [Int.mul_assoc, ← Int.mul_add, ← e]
     rw [e2]; simp only [Int.mul_zero, Int.add_zero]; omega)
   by_cases hneg : m.tmod 10 < 0
   ·rw [show decide (m.tmod 10 < 0) = true by simpa using hneg, ift_true]
    have hx : IntKind.i64.wrap (0 - m.tmod 10) = ab m % 10 := by
     rw [w64 (by rw [hr]; split <;> omega) (by rw [hr]; split <;> omega)]
     rw [hr] at hneg ⊢
     unfold ab
     by_cases h : m < 0
     ·simp only [h, if_true]; omega
     ·simp only [h, if_false] at hneg; omega
    rw [step _ hx]; exact nxt
   ·rw [show decide (m.tmod 10 < 0) = false by simpa using hneg, ift_false]
    have hx : m.tmod 10 = ab m % 10 := by
     rw [hr] at hneg ⊢
     unfold ab
     by_cases h : m < 0
     ·simp only [h, if_true] at hneg ⊢; omega
     ·simp only [h, if_false]
    rw [step _ hx]; exact nxt

theorem twelve_eq {v : GValue} (hn : i64 v.n) (hs : inR v.scale) : ∃ r, ref1_twelve v = some r ∧ RW r (v.n * p10 (12 - v.scale).toNat) := by
 obtain ⟨n0, n1⟩ := hn
 obtain ⟨s0, s1⟩ := hs
 have hab : ab v.n ≤ 9223372036854775808 := by unfold ab; split <;> omega
 obtain ⟨d, h1, h2, h3, h4, h5⟩ := wideOf_loop n0 n1 BIG [] v.n (by simp) (by rw [big_val]; decide) (fun x hx => by cases hx) (fun _ x hx => by simp at hx) (by
  have : p10 (19 - ([] : List Int).length) = 10000000000000000000 := by decide
  rw [this]; omega) n0 n1 (by simp [dval, p10])
 unfold ref1_twelve ref1_wideOf
 rw [h1]
 simp only [bnd_eq]
 rw [w64 (by omega) (by omega)]
 unfold ref1_tens
 have hpp := p10_pos (12 - v.scale).toNat
 by_cases he : d = []
 ·subst he
  have hz : v.n = 0 := by simp only [dval] at h5; unfold ab at h5; split at h5 <;> omega
  rw [show (((⟨decide (v.n < 0), []⟩ : RWide).d.length : Int) == 0) = true from rfl, ift_true]
  refine ⟨_, rfl, ⟨h2, h3, by simp, ?_, ?_⟩⟩
  ·simp [hz, dval]
  ·simp [hz]
 ·have hlen : ((d.length : Int) == 0) = false := by
   rw [beq_eq_false_iff_ne]
   have : d.length ≠ 0 := fun h => he (List.length_eq_zero_iff.1 h)
   omega
  simp only
  rw [hlen, ift_false, grd_pos (by omega), grd_pos (by simp; omega)]
  have hval : dval (List.replicate (12 - v.scale).toNat 0 ++ d) = ab v.n * p10 (12 - v.scale).toNat := by
   rw [dval_append, dval_zeros, List.length_replicate, h5, Int.mul_comm]; omega
  have hpos : 0 < ab v.n := by
   have h6 := dval_ge h2 h3 he
   have := p10n (d.length - 1)
   omega
  refine ⟨_, rfl, ⟨fun x hx => ?_, fun x hx => ?_, by simp; omega, ?_, fun _ => ?_⟩⟩
  ·rcases List.mem_append.1 hx with h | h
   ·have := List.eq_of_mem_replicate h; omega
   ·exact h2 x h
  ·rw [List.getLast?_append] at hx
   cases hg : d.getLast? with
   | none => exact absurd (List.getLast?_eq_none_iff.1 hg) he
   | some y => rw [hg] at hx; simp at hx; subst hx; exact h3 _ hg
  ·simp only
   rw [hval]
   by_cases hneg : v.n < 0
   ·simp only [hneg, decide_true, if_true, ab]; rw [Int.neg_mul, Int.neg_neg]
   ·simp only [hneg, decide_false, Bool.false_eq_true, if_false, ab]
  ·simp only
   rw [hval]
   exact Int.mul_pos hpos (by omega)

/-! ### texts -/

theorem texts_loop {s t : ByteArray} (hs : s.size < 1000000000000000) : ∀ (k i : Nat), i ≤ s.size → i ≤ t.size → s.size < i + k →
  ref1_texts_l1 s t k (i : Int) = some (cB (s.data.toList.drop i) (t.data.toList.drop i)) := by
 have ls : s.data.toList.length = s.size := by simp
 have lt : t.data.toList.length = t.size := by simp
 intro k
 induction k with
 | zero => intro i h1 h2 h3; omega
 | succ k ih =>
  intro i h1 h2 h3
  rw [ref1_texts_l1]
  unfold ref1_texts_j1 ref1_texts_j2
  simp only [order_eq, bnd_eq]
  by_cases hi : i < s.size
  ·have e1 : s.data.toList.drop i = s.data.toList[i]'(by omega) :: s.data.toList.drop (i + 1) := List.drop_eq_getElem_cons (by omega)
   rw [show decide ((i : Int) < (s.size : Int)) = true by simpa using hi, ift_true]
   by_cases hj : i < t.size
   ·have e2 : t.data.toList.drop i = t.data.toList[i]'(by omega) :: t.data.toList.drop (i + 1) := List.drop_eq_getElem_cons (by omega)
    have g1 : s.data.toList.getD (i : Int).toNat 0 = s.data.toList[i]'(by omega) := by simp [List.getD, hi]
    have g2 : t.data.toList.getD (i : Int).toNat 0 = t.data.toList[i]'(by omega) := by simp [List.getD, hj]
    rw [show decide ((i : Int) < (t.size : Int)) = true by simpa using hj, ift_true, grd_pos (by omega), grd_pos (by omega), grd_pos (by omega), grd_pos (by omega), g1, g2, e1, e2, cB_cons]
    generalize s.data.toList[i]'(by omega) = x
    generalize t.data.toList[i]'(by omega) = y
    have hx := x.toNat_lt
    have hy := y.toNat_lt
    rw [w64 (x := (x.toNat : Int)) (by omega) (by omega), w64 (x := (y.toNat : Int)) (by omega) (by omega)]
    by_cases hxy : (x.toNat : Int) = y.toNat
    ·rw [show ((x.toNat : Int) != (y.toNat : Int)) = false by rw [bne_eq_false_iff_eq]; exact hxy, ift_false, w64 (by omega) (by omega), show (i : Int) + 1 = ((i + 1 : Nat) : Int) by omega, ih (i + 1) (by omega) (by omega) (by omega), hxy, c3_self, or_zero]
    ·rw [show ((x.toNat : Int) != (y.toNat : Int)) = true by rw [bne_iff_ne]; exact hxy, ift_true]
     unfold or'
     rw [if_pos (by unfold c3; split <;> (try split) <;> omega)]
   ·have e2 : t.data.toList.drop i = [] := List.drop_of_length_le (by omega)
    rw [show decide ((i : Int) < (t.size : Int)) = false by simpa using hj, ift_false, e1, e2]
    have : cB (s.data.toList[i]'(by omega) :: s.data.toList.drop (i + 1)) [] = 1 := by simp [cB, Op.bytesLess]
    rw [this]
    unfold c3; rw [if_neg (by omega), if_pos (by omega)]
  ·have e1 : s.data.toList.drop i = [] := List.drop_of_length_le (by omega)
   rw [show decide ((i : Int) < (s.size : Int)) = false by simpa using hi, ift_false, ift_false, e1]
   by_cases hj : i < t.size
   ·have e2 : t.data.toList.drop i = t.data.toList[i]'(by omega) :: t.data.toList.drop (i + 1) := List.drop_eq_getElem_cons (by omega)
    rw [e2]
    have : cB [] (t.data.toList[i]'(by omega) :: t.data.toList.drop (i + 1)) = -1 := by simp [cB, Op.bytesLess]
    rw [this]
    unfold c3; rw [if_pos (by omega)]
   ·have e2 : t.data.toList.drop i = [] := List.drop_of_length_le (by omega)
    rw [e2]
    have : cB [] [] = 0 := by simp [cB, Op.bytesLess]
    rw [this]
    unfold c3; rw [if_neg (by omega), if_neg (by omega)]

theorem texts_eq {s t : ByteArray} (hs : s.size < 1000000000000000) : ref1_texts s t = some (cS s t) := by
 unfold ref1_texts
 have := texts_loop (t := t) hs BIG 0 (Nat.zero_le _) (Nat.zero_le _) (by rw [big_val]; omega)
 rw [show ((0 : Nat) : Int) = 0 from rfl] at this
 rw [this, List.drop_zero, List.drop_zero, cS_eq]
 have e1 : s.toList = s.data.toList := by simp [ByteArray.toList_eq]
 have e2 : t.toList = t.data.toList := by simp [ByteArray.toList_eq]
 rw [e1, e2]

/-! ### values -/

theorem ritems_loop (f : GValue → GValue → Option Int) (a b : GValue) (hl : a.items.length < 1000000000000000) (hf : ∀ x ∈ a.items, ∀ y ∈ b.items, f x y = some (cmpV x y)) : ∀ (k i : Nat), i ≤ a.items.length → i ≤ b.items.length → a.items.length < i + k →
  ref1_Compare_l1 f a b k (i : Int) = some (cmpL (a.items.drop i) (b.items.drop i)) := by
 intro k
 induction k with
 | zero => intro i h1 h2 h3; omega
 | succ k ih =>
  intro i h1 h2 h3
  rw [ref1_Compare_l1]
  unfold ref1_Compare_j3 ref1_Compare_j4
  rw [order_eq]
  simp only [bnd_eq]
  by_cases hi : i < a.items.length
  ·have e1 : a.items.drop i = a.items[i] :: a.items.drop (i + 1) := List.drop_eq_getElem_cons hi
   have a1 : at? a.items (i : Int) = some a.items[i] := by unfold at?; simp [hi]
   rw [show decide ((i : Int) < (a.items.length : Int)) = true by simp [hi], ift_true, a1, e1]
   simp only [bnd_eq]
   by_cases hj : i < b.items.length
   ·have e2 : b.items.drop i = b.items[i] :: b.items.drop (i + 1) := List.drop_eq_getElem_cons hj
    have a2 : at? b.items (i : Int) = some b.items[i] := by unfold at?; simp [hj]
    rw [show decide ((i : Int) < (b.items.length : Int)) = true by simp [hj], ift_true, a2, e2]
    simp only [bnd_eq]
    rw [hf _ (List.getElem_mem hi) _ (List.getElem_mem hj)]
    simp only [bnd_eq, cmpL]
    unfold or'
    by_cases hc : cmpV a.items[i] b.items[i] = 0
    ·have e : (cmpV a.items[i] b.items[i] != 0) = false := by simp [hc]
     rw [e, ift_false, w64 (by omega) (by omega), show (i : Int) + 1 = ((i + 1 : Nat) : Int) by omega, ih (i + 1) (by omega) (by omega) (by omega), if_neg (by simp [hc])]
    ·have e : (cmpV a.items[i] b.items[i] != 0) = true := by simp [hc]
     rw [e, ift_true, if_pos hc]
   ·have e2 : b.items.drop i = [] := List.drop_of_length_le (by omega)
    rw [show decide ((i : Int) < (b.items.length : Int)) = false by simp; omega, ift_false, e2]
    simp only [cmpL]
    unfold c3; rw [if_neg (by omega), if_pos (by omega)]
  ·have e1 : a.items.drop i = [] := List.drop_of_length_le (by omega)
   rw [show decide ((i : Int) < (a.items.length : Int)) = false by simp; omega, ift_false, ift_false, e1]
   by_cases hj : i < b.items.length
   ·have e2 : b.items.drop i = b.items[i] :: b.items.drop (i + 1) := List.drop_eq_getElem_cons hj
    rw [e2]
    simp only [cmpL]
    unfold c3; rw [if_pos (by omega)]
   ·have e2 : b.items.drop i = [] := List.drop_of_length_le (by omega)
    rw [e2]
    simp only [cmpL]
    unfold c3; rw [if_neg (by omega), if_neg (by omega)]

theorem c3_ne {a b : Int} (h : a ≠ b) : c3 a b ≠ 0 := by unfold c3; split <;> (try split) <;> omega

theorem or_pos {x : Int} (h : x ≠ 0) (y : Int) : or' x y = x := by unfold or'; rw [if_pos h]

theorem rcompareV_eq : ∀ (N : Nat) (a b : GValue) (k : Nat), sizeV a ≤ N → sizeV a < 1000000000000000 → wfV a → wfV b → N + 1 ≤ k → ref1_Compare k a b = some (cmpV a b) := by
 intro N
 induction N with
 | zero => intro a b k h; have := sizeV_pos a; omega
 | succ N ih =>
  intro a b k hN hbig ha hb hk
  obtain ⟨k', rfl⟩ : ∃ k', k = k' + 1 := ⟨k - 1, by omega⟩
  obtain ⟨ka, na, sa, ta, ia⟩ := a
  obtain ⟨kb, nb, sb, tb, ib⟩ := b
  simp only [wfV] at ha hb
  obtain ⟨wk, wn, ws, wi⟩ := ha
  obtain ⟨vk, vn, vs, vi⟩ := hb
  simp only [sizeV] at hN hbig
  have hlen := sizeL_len ia
  have hitems : ref1_Compare_l1 (ref1_Compare k') ⟨ka, na, sa, ta, ia⟩ ⟨kb, nb, sb, tb, ib⟩ BIG 0 = some (cmpL ia ib) := by
   have := ritems_loop (ref1_Compare k') ⟨ka, na, sa, ta, ia⟩ ⟨kb, nb, sb, tb, ib⟩ (by simp only; omega) (fun x hx y hy => by
    have h1 : sizeV x ≤ sizeL ia := sizeL_mem hx
    exact ih x y k' (by omega) (by omega) (wfL_mem wi hx) (wfL_mem vi hy) (by omega)) BIG 0 (Nat.zero_le _) (Nat.zero_le _) (by rw [big_val]; simp only; omega)
   simpa using this
  have htx : ref1_texts ta tb = some (cS ta tb) := texts_eq (by omega)
  have j2f : ref1_Compare_j2 (ref1_Compare k') ⟨ka, na, sa, ta, ia⟩ ⟨kb, nb, sb, tb, ib⟩ false = some (or' (c3 sa sb) (or' (cS ta tb) (cmpL ia ib))) := by
   unfold ref1_Compare_j2
   rw [ift_false, htx, hitems]
   simp only [order_eq, bnd_eq]
   by_cases hs : sa = sb
   ·subst hs
    rw [show (sa != sa) = false by simp, ift_false, c3_self, or_zero]
    by_cases hc : cS ta tb = 0
    ·rw [show (cS ta tb != 0) = false by simp [hc], ift_false, hc, or_zero]
    ·rw [show (cS ta tb != 0) = true by simp [hc], ift_true, or_pos hc]
   ·rw [show (sa != sb) = true by simp [hs], ift_true, or_pos (c3_ne hs)]
  rw [ref1_Compare]
  simp only [order_eq, bnd_eq, cmpV]
  by_cases h0 : ka = 0
  ·subst h0
   by_cases h1 : kb = 0
   ·subst h1; rfl
   ·have e : ((kb == 0) : Bool) = false := beq_eq_false_iff_ne.2 h1
    have n2 : nulI kb = 0 := by unfold nulI; rw [if_neg h1]
    rw [e, n2]; rfl
  ·have e0 : ((ka == 0) : Bool) = false := beq_eq_false_iff_ne.2 h0
   have n1 : nulI ka = 0 := by unfold nulI; rw [if_neg h0]
   rw [e0, n1]
   by_cases h1 : kb = 0
   ·subst h1; rfl
   ·have e1 : ((kb == 0) : Bool) = false := beq_eq_false_iff_ne.2 h1
    have n2 : nulI kb = 0 := by unfold nulI; rw [if_neg h1]
    rw [e1, n2, c3_self, or_zero]
    rw [show (!((false : Bool) == false)) = false from rfl, ift_false, ift_false]
    by_cases hkk : ka = kb
    ·subst hkk
     rw [show (ka != ka) = false by simp, ift_false, c3_self, or_zero, if_neg h0]
     by_cases h3 : ka = 3
     ·subst h3
      rw [show ((3 : Int) == 3) = true from rfl, ift_true]
      have j1 : ref1_Compare_j1 (ref1_Compare k') ⟨3, na, sa, ta, ia⟩ ⟨3, nb, sb, tb, ib⟩ = some (or' (c3 sa sb) (or' (cS ta tb) (cmpL ia ib))) := by
       unfold ref1_Compare_j1
       rw [show (((3 : Int) != 3) : Bool) = false from rfl, j2f]
       rcases Bool.eq_false_or_eq_true (na != nb) with h | h <;> rw [h] <;> rfl
      rw [j1]
      unfold ref1_decimals
      simp only [rwithinO, bnd_eq, order_eq]
      by_cases hA : 0 ≤ sa ∧ sa ≤ 12
      ·have hiA : inR sa := hA
       have eA : decide (0 ≤ sa ∧ sa ≤ 12) = true := by simpa using hA
       have o1 : ooI 3 sa = 0 := by unfold ooI; rw [if_neg (by simp [hiA])]
       by_cases hB : 0 ≤ sb ∧ sb ≤ 12
       ·have hiB : inR sb := hB
        have eB : decide (0 ≤ sb ∧ sb ≤ 12) = true := by simpa using hB
        have o2 : ooI 3 sb = 0 := by unfold ooI; rw [if_neg (by simp [hiB])]
        obtain ⟨r1, g1, g2⟩ := twelve_eq (v := ⟨3, na, sa, ta, ia⟩) wn hiA
        obtain ⟨r2, f1, f2⟩ := twelve_eq (v := ⟨3, nb, sb, tb, ib⟩) vn hiB
        rw [eA, eB, g1, f1]
        simp only [bnd_eq]
        rw [rcompare_eq g2 f2]
        simp only [bnd_eq]
        rw [show (!((true : Bool) == true)) = false from rfl, ift_false, ift_true]
        have u1 : vvI 3 sa na = na * p10 (12 - sa).toNat := by unfold vvI; rw [if_pos ⟨rfl, hiA⟩]
        have u2 : vvI 3 sb nb = nb * p10 (12 - sb).toNat := by unfold vvI; rw [if_pos ⟨rfl, hiB⟩]
        rw [o1, o2, c3_self, or_zero, u1, u2]
        by_cases hc : c3 (na * p10 (12 - sa).toNat) (nb * p10 (12 - sb).toNat) = 0
        ·rw [hc]
         rw [show ((0 : Int) != 0) = false from rfl, ift_false, bnd_eq, or_zero]
         by_cases hs : sa = sb
         ·subst hs; rw [c3_self, show ((0 : Int) != 0) = false from rfl, ift_false]
         ·rw [show (c3 sa sb != 0) = true by simp [c3_ne hs], ift_true, or_pos (c3_ne hs)]
        ·have hcb : (c3 (na * p10 (12 - sa).toNat) (nb * p10 (12 - sb).toNat) != 0) = true := by simp [hc]
         rw [hcb, ift_true, bnd_eq, hcb, ift_true, or_pos hc]
       ·have hiB : ¬ inR sb := hB
        have eB : decide (0 ≤ sb ∧ sb ≤ 12) = false := by simpa using hB
        have o2 : ooI 3 sb = 1 := by unfold ooI; rw [if_pos ⟨rfl, hiB⟩]
        rw [eA, eB, o1, o2]; rfl
      ·have hiA : ¬ inR sa := hA
       have eA : decide (0 ≤ sa ∧ sa ≤ 12) = false := by simpa using hA
       have o1 : ooI 3 sa = 1 := by unfold ooI; rw [if_pos ⟨rfl, hiA⟩]
       have u1 : vvI 3 sa na = na := by unfold vvI; rw [if_neg (by simp [hiA])]
       by_cases hB : 0 ≤ sb ∧ sb ≤ 12
       ·have hiB : inR sb := hB
        have eB : decide (0 ≤ sb ∧ sb ≤ 12) = true := by simpa using hB
        have o2 : ooI 3 sb = 0 := by unfold ooI; rw [if_neg (by simp [hiB])]
        rw [eA, eB, o1, o2]; rfl
       ·have hiB : ¬ inR sb := hB
        have eB : decide (0 ≤ sb ∧ sb ≤ 12) = false := by simpa using hB
        have o2 : ooI 3 sb = 1 := by unfold ooI; rw [if_pos ⟨rfl, hiB⟩]
        have u2 : vvI 3 sb nb = nb := by unfold vvI; rw [if_neg (by simp [hiB])]
        rw [eA, eB, o1, o2, c3_self, or_zero, u1, u2]
        rw [show (!((false : Bool) == false)) = false from rfl, ift_false, ift_false]
        by_cases hn : na = nb
        ·subst hn
         rw [show (na != na) = false by simp, ift_false, bnd_eq, c3_self, or_zero]
         by_cases hs : sa = sb
         ·subst hs; rw [c3_self, show ((0 : Int) != 0) = false from rfl, ift_false]
         ·rw [show (c3 sa sb != 0) = true by simp [c3_ne hs], ift_true, or_pos (c3_ne hs)]
        ·rw [show (na != nb) = true by simp [hn], ift_true, bnd_eq, show (c3 na nb != 0) = true by simp [c3_ne hn], ift_true, or_pos (c3_ne hn)]
     ·rw [beq_eq_false_iff_ne.2 h3, ift_false]
      have o1 : ∀ q, ooI ka q = 0 := fun q => by unfold ooI; rw [if_neg (by simp [h3])]
      have u1 : ∀ q r, vvI ka q r = r := fun q r => by unfold vvI; rw [if_neg (by simp [h3])]
      rw [o1, o1, c3_self, or_zero, u1, u1]
      unfold ref1_Compare_j1
      simp only
      rw [show (ka != 3) = true by simp [h3]]
      by_cases hn : na = nb
      ·subst hn
       rw [show (na != na) = false by simp, ift_false, j2f, c3_self, or_zero]
      ·rw [show (na != nb) = true by simp [hn], ift_true, or_pos (c3_ne hn)]
       unfold ref1_Compare_j2
       simp only [ift_true, order_eq, bnd_eq]
    ·rw [show (ka != kb) = true by simp [hkk], ift_true, or_pos (c3_ne hkk)]

end Go.Proofs.YtmaemlebpjnmoaaDoor.Ord
namespace Go.Proofs.YtmaemlebpjnmoaaDoor.Tm
open Go Go.SX Go.SX.Cal
set_option linter.unusedVariables false
set_option linter.unusedSimpArgs false

theorem ift_true {β : Type} (x y : Option β) : ift true x y = x := rfl
theorem ift_false {β : Type} (x y : Option β) : ift false x y = y := rfl
theorem ift_ite {β : Type} (b : Bool) (x y : Option β) : ift b x y = if b = true then x else y := by cases b <;> rfl

theorem floor_eq {a b : Int} (hb : 0 < b) (hb2 : b ≤ 1000000) (h1 : -1000000000000000 ≤ a) (h2 : a ≤ 1000000000000000) : value_floor a b = some (a / b, a % b) := by
 unfold value_floor value_floor_j1
 rw [grd_pos (by omega), grd_pos (by omega)]
 have hq : -1000000000000000 ≤ a / b ∧ a / b ≤ 1000000000000000 := by
  have e : a = b * (a / b) + a % b := (Int.mul_ediv_add_emod a b).symm
  have r0 := Int.emod_nonneg a (show b ≠ 0 by omega)
  have r1 := Int.emod_lt_of_pos a hb
  constructor
  ·apply Int.le_ediv_of_mul_le hb
   have : -1000000000000000 * b ≤ -1000000000000000 * 1 := by apply Int.mul_le_mul_of_nonpos_left <;> omega
   omega
  ·apply Int.ediv_le_of_le_mul hb
   have : 1000000000000000 * 1 ≤ 1000000000000000 * b := by apply Int.mul_le_mul_of_nonneg_left <;> omega
   omega
 have r0 := Int.emod_nonneg a (show b ≠ 0 by omega)
 have r1 := Int.emod_lt_of_pos a hb
 rw [Int.tdiv_eq_ediv, Int.tmod_eq_emod]
 have hs : b.sign = 1 := Int.sign_eq_one_of_pos hb
 have hn : (b.natAbs : Int) = b := by omega
 by_cases hc : 0 ≤ a ∨ b ∣ a
 ·simp only [hc, if_true, Int.natCast_zero, Int.ofNat_zero, Int.cast_ofNat_Int, Int.sub_zero, Int.add_zero]
  rw [show decide (a % b < 0) = false by simp; omega, ift_false, w64 (by omega) (by omega)]
 ·simp only [hc, if_false, hs, hn]
  have hne : a % b ≠ 0 := fun h => hc (.inr (Int.dvd_of_emod_eq_zero h))
  rw [show decide (a % b - b < 0) = true by simp; omega, ift_true]
  simp (disch := omega) only [w64]
  rw [show a / b + 1 - 1 = a / b by omega, show a % b - b + b = a % b by omega]

theorem days_eq {y m d : Int} (h1 : -1000000 ≤ y) (h2 : y ≤ 1000000) (h3 : 1 ≤ m) (h4 : m ≤ 12) (h5 : -100 ≤ d) (h6 : d ≤ 100) : value_days y m d = some (Cal.days y m d) := by
 have key : ∀ y' m', -1000001 ≤ y' → y' ≤ 1000001 → 3 ≤ m' → m' ≤ 14 → value_days_j1 d y' m' = some (y' / 400 * 146097 + S (y' % 400) + mdays (m' - 3) + d - 1 - 719468) := by
  intro y' m' a1 a2 a3 a4
  unfold value_days_j1
  rw [floor_eq (by decide) (by decide) (by omega) (by omega)]
  simp only [bnd_eq]
  have hr : 0 ≤ y' % 400 ∧ y' % 400 ≤ 399 := by omega
  simp (disch := omega) only [w64, Int.tdiv_eq_ediv_of_nonneg]
  unfold S mdays
  congr 1
  omega
 unfold value_days Cal.days
 by_cases hm : m ≤ 2
 ·simp only [hm, decide_true, ift_true, if_true]
  simp (disch := omega) only [w64]
  rw [key _ _ (by omega) (by omega) (by omega) (by omega), show m + 12 - 3 = m + 9 by omega]
 ·simp only [hm, decide_false, ift_false, if_false]
  rw [key _ _ (by omega) (by omega) (by omega) (by omega)]

theorem S_bound {y : Int} (h0 : 0 ≤ y) (h1 : y ≤ 399) : 0 ≤ S y ∧ S y ≤ 146096 := by unfold S; omega

theorem date_eq {n : Int} (h1 : -1000000000 ≤ n) (h2 : n ≤ 1000000000) : value_date n = some (Cal.date n) := by
 unfold value_date value_date_j1
 rw [w64 (by omega) (by omega), floor_eq (by decide) (by decide) (by omega) (by omega)]
 simp only [bnd_eq]
 have hr0 : 0 ≤ (n + 719468) % 146097 := by omega
 have hr1 : (n + 719468) % 146097 ≤ 146096 := by omega
 have he : -10000 ≤ (n + 719468) / 146097 ∧ (n + 719468) / 146097 ≤ 10000 := by omega
 obtain ⟨b0, b1⟩ := yr_bound hr0 hr1
 obtain ⟨s0, s1, _⟩ := yr_ok hr0 hr1
 unfold Cal.date
 simp only
 generalize (n + 719468) % 146097 = r at *
 generalize (n + 719468) / 146097 = era at *
 have e1 : IntKind.i64.wrap (IntKind.i64.wrap (IntKind.i64.wrap (r - IntKind.i64.wrap (r.tdiv 1460)) + IntKind.i64.wrap (r.tdiv 36524)) - IntKind.i64.wrap (r.tdiv 146096)) = r - r / 1460 + r / 36524 - r / 146096 := by
  simp (disch := omega) only [w64, Int.tdiv_eq_ediv_of_nonneg]
 rw [e1]
 have e2 : IntKind.i64.wrap ((r - r / 1460 + r / 36524 - r / 146096).tdiv 365) = yr r := by
  rw [Int.tdiv_eq_ediv_of_nonneg (by omega)]
  exact w64 (by unfold yr at *; omega) (by unfold yr at *; omega)
 rw [e2]
 generalize yr r = y at *
 have hS := S_bound b0 b1
 have e3 : IntKind.i64.wrap (IntKind.i64.wrap (IntKind.i64.wrap (y * 365) + IntKind.i64.wrap (y.tdiv 4)) - IntKind.i64.wrap (y.tdiv 100)) = S y := by
  simp (disch := omega) only [w64, Int.tdiv_eq_ediv_of_nonneg]
  unfold S; omega
 rw [e3]
 have hk : 0 ≤ r - S y ∧ r - S y ≤ 365 := by omega
 rw [w64 (x := r - S y) (by omega) (by omega)]
 generalize r - S y = k at *
 have e4 : IntKind.i64.wrap ((IntKind.i64.wrap (IntKind.i64.wrap (5 * k) + 2)).tdiv 153) = (5 * k + 2) / 153 := by
  simp (disch := omega) only [w64, Int.tdiv_eq_ediv_of_nonneg]
 rw [e4]
 have hm : 0 ≤ (5 * k + 2) / 153 ∧ (5 * k + 2) / 153 ≤ 11 := by omega
 generalize (5 * k + 2) / 153 = m at *
 unfold mdays
 simp (disch := omega) only [w64, Int.tdiv_eq_ediv_of_nonneg]
 by_cases hc : (12 : Int) < m + 3
 ·simp only [hc, decide_true, ift_true, if_true, gt_iff_lt]
 ·simp only [hc, decide_false, ift_false, if_false, gt_iff_lt]

def civ (s : Int) : GCivil := ⟨(Cal.date (s / 86400)).1, (Cal.date (s / 86400)).2.1, (Cal.date (s / 86400)).2.2, s % 86400 / 3600, s % 86400 % 3600 / 60, s % 86400 % 60⟩

theorem civil_eq {s : Int} (h1 : -1000000000000 ≤ s) (h2 : s ≤ 1000000000000) : value_civil s = some (civ s) := by
 unfold value_civil
 rw [floor_eq (by decide) (by decide) (by omega) (by omega)]
 simp only [bnd_eq]
 rw [date_eq (by omega) (by omega)]
 simp only [bnd_eq]
 have : 0 ≤ s % 86400 ∧ s % 86400 < 86400 := by omega
 unfold civ
 generalize s % 86400 = t at *
 simp (disch := omega) only [w64, Int.tdiv_eq_ediv_of_nonneg, Int.tmod_eq_emod_of_nonneg]

def sec (c : GCivil) : Int := Cal.days c.year c.month c.day * 86400 + c.hour * 3600 + c.minute * 60 + c.second

structure Fine (c : GCivil) : Prop where
 y0 : -20000 ≤ c.year
 y1 : c.year ≤ 20000
 m0 : 1 ≤ c.month
 m1 : c.month ≤ 12
 d0 : -100 ≤ c.day
 d1 : c.day ≤ 100
 h0 : 0 ≤ c.hour
 h1 : c.hour ≤ 23
 i0 : 0 ≤ c.minute
 i1 : c.minute ≤ 59
 s0 : 0 ≤ c.second
 s1 : c.second ≤ 59

theorem dim_bound (y m : Int) : 28 ≤ dim y m ∧ dim y m ≤ 31 := by
 unfold dim; split <;> (try split) <;> (try split) <;> omega

theorem within_eq (a b c : Int) : value_within a b c = some (decide (b ≤ a ∧ a ≤ c)) := by
 unfold value_within value_within_j1
 by_cases h : b ≤ a <;> by_cases k : a ≤ c <;> simp [h, k, ift_ite]

end Go.Proofs.YtmaemlebpjnmoaaDoor.Tm
namespace Go.Proofs.YtmaemlebpjnmoaaDoor.Tm
open Go Go.SX Go.SX.Cal
set_option linter.unusedVariables false
set_option linter.unusedSimpArgs false

theorem big_val : BIG = 1152921504606846976 := rfl

structure TOk (t : GTurn) : Prop where
 m0 : 1 ≤ t.month
 m1 : t.month ≤ 12
 w0 : 1 ≤ t.week
 w1 : t.week ≤ 5
 d0 : 1 ≤ t.weekday
 d1 : t.weekday ≤ 7
 i0 : 0 ≤ t.minute
 i1 : t.minute ≤ 1440

def atN (t : GTurn) (y : Int) : Int := Cal.days y t.month 1 + (t.weekday - ((Cal.days y t.month 1 + 3) % 7 + 1) + 7) % 7

def atDay (t : GTurn) (y : Int) : Int :=
 if t.week < 5 then atN t y + (t.week - 1) * 7 else atN t y + 7 * ((Cal.days y t.month 1 + dim y t.month - 1 - atN t y) / 7)

theorem atN_bound {t : GTurn} (y : Int) : Cal.days y t.month 1 ≤ atN t y ∧ atN t y ≤ Cal.days y t.month 1 + 6 := by unfold atN; omega

theorem atDay_bound {t : GTurn} (ht : TOk t) (y : Int) : Cal.days y t.month 1 ≤ atDay t y ∧ atDay t y ≤ Cal.days y t.month 1 + 30 := by
 have := atN_bound (t := t) y
 have hd := dim_bound y t.month
 have := ht.w0
 unfold atDay; split <;> omega

/-! ### zones -/

structure ZOk (z : GZone) : Prop where
 o0 : -720 ≤ z.offset
 o1 : z.offset ≤ 720
 s : z.summer = 0 ∨ (TOk z.start ∧ TOk z.stop ∧ (z.summer = 30 ∨ z.summer = 60) ∧ z.start.minute = 120 ∧ ((z.start.month = 3 ∧ 10 ≤ z.stop.month ∧ z.stop.month ≤ 11) ∨ (z.start.month = 10 ∧ z.stop.month = 4)))

def yof (z : GZone) (m : Int) : Int := (Cal.date ((m + z.offset * 60) / 86400)).1
def bgn (z : GZone) (y : Int) : Int := atDay z.start y * 86400 + z.start.minute * 60 - z.offset * 60
def fin (z : GZone) (y : Int) : Int := atDay z.stop y * 86400 + z.stop.minute * 60 - z.offset * 60 - z.summer * 60
def isIn (z : GZone) (m : Int) : Prop := if fin z (yof z m) ≤ bgn z (yof z m) then m < fin z (yof z m) ∨ bgn z (yof z m) ≤ m else bgn z (yof z m) ≤ m ∧ m < fin z (yof z m)
instance (z : GZone) (m : Int) : Decidable (isIn z m) := by unfold isIn; infer_instance
def ahd (z : GZone) (m : Int) : Int := if z.summer = 0 then z.offset * 60 else if isIn z m then z.offset * 60 + z.summer * 60 else z.offset * 60

theorem year_bound {n : Int} (h1 : -5000000 ≤ n) (h2 : n ≤ 5000000) : -20000 ≤ (Cal.date n).1 ∧ (Cal.date n).1 ≤ 20000 := by
 obtain ⟨b0, b1⟩ := yr_bound (r := (n + 719468) % 146097) (by omega) (by omega)
 simp only [Cal.date]
 split <;> omega

def Zs : List GZone := (api_Zones).getD []

end Go.Proofs.YtmaemlebpjnmoaaDoor.Tm
namespace Go.Proofs.YtmaemlebpjnmoaaDoor.Tm
open Go Go.SX Go.SX.Cal
set_option linter.unusedVariables false
set_option linter.unusedSimpArgs false

theorem civ_ok {s : Int} (h1 : -400000000000 ≤ s) (h2 : s ≤ 400000000000) : Fine (civ s) ∧ sec (civ s) = s ∧ 1 ≤ (civ s).day ∧ (civ s).day ≤ dim (civ s).year (civ s).month := by
 obtain ⟨e, m0, m1, d0, d1⟩ := date_ok (s / 86400)
 have hy := year_bound (n := s / 86400) (by omega) (by omega)
 have hd := dim_bound (Cal.date (s / 86400)).1 (Cal.date (s / 86400)).2.1
 refine ⟨⟨hy.1, hy.2, m0, m1, ?_, ?_, ?_, ?_, ?_, ?_, ?_, ?_⟩, ?_, d0, d1⟩
 ·show -100 ≤ (Cal.date (s / 86400)).2.2; omega
 ·show (Cal.date (s / 86400)).2.2 ≤ 100; omega
 ·show 0 ≤ s % 86400 / 3600; omega
 ·show s % 86400 / 3600 ≤ 23; omega
 ·show 0 ≤ s % 86400 % 3600 / 60; omega
 ·show s % 86400 % 3600 / 60 ≤ 59; omega
 ·show 0 ≤ s % 86400 % 60; omega
 ·show s % 86400 % 60 ≤ 59; omega
 ·show Cal.days (Cal.date (s / 86400)).1 (Cal.date (s / 86400)).2.1 (Cal.date (s / 86400)).2.2 * 86400 + s % 86400 / 3600 * 3600 + s % 86400 % 3600 / 60 * 60 + s % 86400 % 60 = s
  rw [e]; omega

def zf (nm : ByteArray) : Option GZone := Zs.find? (fun z => z.name.toList == nm.toList)

def chk (c : GCivil) : Prop := 1 ≤ c.year ∧ c.year ≤ 9999 ∧ 1 ≤ c.month ∧ c.month ≤ 12 ∧ 1 ≤ c.day ∧ c.day ≤ dim c.year c.month ∧ 0 ≤ c.hour ∧ c.hour ≤ 23 ∧ 0 ≤ c.minute ∧ c.minute ≤ 59 ∧ 0 ≤ c.second ∧ c.second ≤ 59

instance (c : GCivil) : Decidable (chk c) := by unfold chk; infer_instance

def J (z : GZone) (y : Int) : Int := Cal.days y 1 1 * 86400 - z.offset * 60

theorem yof_iff {z : GZone} {m y : Int} : yof z m = y ↔ J z y ≤ m ∧ m < J z (y + 1) := by
 unfold yof J
 rw [year_iff]
 omega

theorem month_E (y : Int) : Cal.days y 3 1 = E y ∧ Cal.days y 4 1 = E y + 31 ∧ Cal.days y 10 1 = E y + 214 ∧ Cal.days y 11 1 = E y + 245 ∧ Cal.days (y + 1) 1 1 = E y + 306 ∧ E y - 60 ≤ Cal.days y 1 1 ∧ Cal.days y 1 1 ≤ E y - 59 := by
 rw [days_jan, days_jan, show y + 1 - 1 = y by omega]
 have hE := E_step (y - 1)
 rw [show y - 1 + 1 = y by omega] at hE
 simp only [days_E]
 simp [mdays]
 omega

theorem near {z : GZone} (hz : ZOk z) (hs : z.summer ≠ 0) {m : Int} (y : Int) (h1 : J z y - 1728000 ≤ m) (h2 : m < J z y + 1728000) : ahd z m = if z.start.month = 3 then z.offset * 60 else z.offset * 60 + z.summer * 60 := by
 obtain ⟨o0, o1, hss⟩ := hz
 rcases hss with h | ⟨t1, t2, hsu, hmin, hmo⟩
 ·exact absurd h hs
 have key : (z.start.month = 3 ∧ ¬ isIn z m) ∨ (z.start.month ≠ 3 ∧ isIn z m) := by
  unfold isIn
  by_cases hy : J z y ≤ m
  ·have h366 := days_year y
   have hyo : yof z m = y := yof_iff.2 ⟨hy, by unfold J at *; omega⟩
   rw [hyo]
   obtain ⟨e3, e4, e10, e11, en, ej0, ej1⟩ := month_E y
   have b1 := atDay_bound t1 y
   have b2 := atDay_bound t2 y
   have i3 := t2.i0; have i4 := t2.i1
   unfold bgn fin
   unfold J at *
   rcases hmo with ⟨m1, m2, m3⟩ | ⟨m1, m2⟩
   ·rw [m1, e3] at b1
    refine .inl ⟨m1, ?_⟩
    have hst : z.stop.month = 10 ∨ z.stop.month = 11 := by omega
    rcases hst with hst | hst
    ·rw [hst, e10] at b2
     rw [if_neg (by omega)]; omega
    ·rw [hst, e11] at b2
     rw [if_neg (by omega)]; omega
   ·rw [m1, e10] at b1
    rw [m2, e4] at b2
    refine .inr ⟨by omega, ?_⟩
    rw [if_pos (by omega)]; omega
  ·have h366 := days_year (y - 1)
   rw [show y - 1 + 1 = y by omega] at h366
   have hyo : yof z m = y - 1 := yof_iff.2 ⟨by unfold J at *; omega, by rw [show y - 1 + 1 = y by omega]; omega⟩
   rw [hyo]
   obtain ⟨e3, e4, e10, e11, en, ej0, ej1⟩ := month_E (y - 1)
   rw [show y - 1 + 1 = y by omega] at en
   have b1 := atDay_bound t1 (y - 1)
   have b2 := atDay_bound t2 (y - 1)
   have i3 := t2.i0; have i4 := t2.i1
   unfold bgn fin
   unfold J at *
   rcases hmo with ⟨m1, m2, m3⟩ | ⟨m1, m2⟩
   ·rw [m1, e3] at b1
    refine .inl ⟨m1, ?_⟩
    have hst : z.stop.month = 10 ∨ z.stop.month = 11 := by omega
    rcases hst with hst | hst
    ·rw [hst, e10] at b2
     rw [if_neg (by omega)]; omega
    ·rw [hst, e11] at b2
     rw [if_neg (by omega)]; omega
   ·rw [m1, e10] at b1
    rw [m2, e4] at b2
    refine .inr ⟨by omega, ?_⟩
    rw [if_pos (by omega)]; omega
 unfold ahd
 rw [if_neg hs]
 rcases key with ⟨k1, k2⟩ | ⟨k1, k2⟩
 ·rw [if_neg k2, if_pos k1]
 ·rw [if_pos k2, if_neg k1]

theorem days_one : Cal.days 1 1 1 = -719162 := by decide +kernel

theorem first {z : GZone} (hz : ZOk z) {m : Int} (hs : z.summer ≠ 0) (h : ahd z m = z.offset * 60) (hx : ahd z (m - z.summer * 60) = z.offset * 60 + z.summer * 60) (hm : (-62135596800) ≤ m) : (-62135596800) ≤ m - z.summer * 60 := by
 apply Classical.byContradiction
 intro hn
 have hsu : z.summer = 30 ∨ z.summer = 60 := by rcases hz.s with h | ⟨_, _, h, _⟩ <;> omega
 have o0 := hz.o0; have o1 := hz.o1
 have n1 := near hz hs (m := m) 1 (by unfold J; rw [days_one]; omega) (by unfold J; rw [days_one]; omega)
 have n2 := near hz hs (m := m - z.summer * 60) 1 (by unfold J; rw [days_one]; omega) (by unfold J; rw [days_one]; omega)
 rw [n1] at h; rw [n2] at hx
 split at h <;> omega

end Go.Proofs.YtmaemlebpjnmoaaDoor.Tm
namespace Go.Proofs.YtmaemlebpjnmoaaDoor.Tm
open Go Go.SX Go.SX.Cal
set_option linter.unusedVariables false
set_option linter.unusedSimpArgs false

theorem jan_zero : Cal.days 0 1 1 = -719528 := by decide +kernel

theorem month_step (y k : Int) (h1 : 1 ≤ k) (h2 : k ≤ 11) : Cal.days y (k + 1) 1 = Cal.days y k 1 + dim y k := by
 have hE := E_step (y - 1)
 rw [show y - 1 + 1 = y by omega] at hE
 rw [days_E, days_E]
 unfold dim
 have hc : k = 1 ∨ k = 2 ∨ k = 3 ∨ k = 4 ∨ k = 5 ∨ k = 6 ∨ k = 7 ∨ k = 8 ∨ k = 9 ∨ k = 10 ∨ k = 11 := by omega
 rcases hE with ⟨hl, hE⟩ | ⟨hl, hE⟩ <;> simp only [hl, if_true, if_false] <;> rcases hc with rfl | rfl | rfl | rfl | rfl | rfl | rfl | rfl | rfl | rfl | rfl <;> simp [mdays] <;> omega

theorem days_d (y m d : Int) : Cal.days y m d = Cal.days y m 1 + d - 1 := by
 rw [days_E, days_E]; split <;> omega

theorem years_of {s : Int} (h1 : -62160000000 ≤ s) (h2 : s ≤ 253402400799) : 0 ≤ (Cal.date (s / 86400)).1 ∧ (Cal.date (s / 86400)).1 ≤ 10000 := by
 obtain ⟨a1, a2⟩ := (year_iff (n := s / 86400) (y := (Cal.date (s / 86400)).1)).1 rfl
 have e0 := jan_zero
 have e1 : Cal.days 10001 1 1 = 2933263 := by decide +kernel
 constructor
 ·apply Classical.byContradiction
  intro hn
  have := days_mono (y := (Cal.date (s / 86400)).1 + 1) (z := 0) (by omega)
  omega
 ·apply Classical.byContradiction
  intro hn
  have := days_mono (y := 10001) (z := (Cal.date (s / 86400)).1) (by omega)
  omega

/-! ### turns -/

end Go.Proofs.YtmaemlebpjnmoaaDoor.Tm
namespace Go.Proofs.YtmaemlebpjnmoaaDoor
open Go Go.SX Go.SX.Cal Go.Lib
set_option linter.unusedVariables false
set_option linter.unusedSimpArgs false

theorem enc_eq (r : Int) : (Utf8.encode r).data.toList = encodeRune r := by
 unfold Utf8.encode
 rw [validRune_eq]
 unfold validRune
 by_cases hv : (0 ≤ r ∧ r < 55296) ∨ (57343 < r ∧ r ≤ 1114111)
 ·rw [decide_eq_true hv]
  simp only [if_true]
  obtain ⟨n, rfl⟩ : ∃ n : Nat, r = (n : Int) := ⟨r.toNat, by omega⟩
  rw [Int.toNat_natCast]
  by_cases h1 : n < 128
  ·rw [if_pos h1]
   unfold encodeRune
   rw [encodeRuneZ_one (by omega) (by omega)]
   simp
  ·rw [if_neg h1]
   by_cases h2 : n < 2048
   ·rw [if_pos h2]
    unfold encodeRune
    rw [encodeRuneZ_two (by omega) (by omega)]
    simp only [List.map_cons, List.map_nil, show (192 + (n : Int) / 64).toNat = 192 + n / 64 by omega, show (128 + (n : Int) % 64).toNat = 128 + n % 64 by omega]
   ·rw [if_neg h2]
    by_cases h3 : n < 65536
    ·rw [if_pos h3]
     unfold encodeRune
     rw [encodeRuneZ_three (by omega)]
     simp only [List.map_cons, List.map_nil, show (224 + (n : Int) / 4096).toNat = 224 + n / 4096 by omega, show (128 + (n : Int) / 64 % 64).toNat = 128 + n / 64 % 64 by omega, show (128 + (n : Int) % 64).toNat = 128 + n % 64 by omega]
    ·rw [if_neg h3]
     unfold encodeRune
     rw [encodeRuneZ_four (by omega) (by omega)]
     simp only [List.map_cons, List.map_nil, show (240 + (n : Int) / 262144).toNat = 240 + n / 262144 by omega, show (128 + (n : Int) / 4096 % 64).toNat = 128 + n / 4096 % 64 by omega, show (128 + (n : Int) / 64 % 64).toNat = 128 + n / 64 % 64 by omega, show (128 + (n : Int) % 64).toNat = 128 + n % 64 by omega]
 ·rw [decide_eq_false hv]
  unfold encodeRune
  rw [encodeRuneZ_bad (by omega)]
  simp only [Bool.false_eq_true, if_false]
  decide

theorem runesBytes_list (ns : List Int) : (runesBytes ns).data.toList = (ns.map encodeRune).flatten := by
 have h : ∀ (ns : List Int) (acc : ByteArray), (ns.foldl (fun r n => r ++ Utf8.encode n) acc).data.toList = acc.data.toList ++ (ns.map encodeRune).flatten := by
  intro ns
  induction ns with
  | nil => intro acc; simp
  | cons n ns ih => intro acc; rw [List.foldl_cons, ih, ByteArray.data_append, Array.toList_append, enc_eq]; simp
 unfold runesBytes
 rw [h]
 rfl

def pre : Nat → List UInt8 → List UInt8
 | 0, _ => []
 | k + 1, l => if l = [] then [] else l.take (decodeL l).2 ++ pre k (l.drop (decodeL l).2)

theorem validD_next {l : List UInt8} (hne : l ≠ []) (hv : validD l = true) : ¬ ((decodeL l).1 = 65533 ∧ (decodeL l).2 = 1) ∧ validD (l.drop (decodeL l).2) = true := by
 rw [validD_step _ hne] at hv
 by_cases h : (decodeL l).1 = 65533 ∧ (decodeL l).2 = 1
 ·rw [if_pos h] at hv; cases hv
 ·rw [if_neg h] at hv; exact ⟨h, hv⟩

theorem runes_pre (s : ByteArray) : ∀ (b k i : Nat), s.size ≤ i + b → i ≤ s.size → validD (s.data.toList.drop i) = true →
  (((runesAt s b i).take k).map encodeRune).flatten = pre k (s.data.toList.drop i) := by
 have hl : s.data.toList.length = s.size := by simp
 intro b
 induction b with
 | zero =>
  intro k i hb hi hv
  have : s.data.toList.drop i = [] := List.drop_of_length_le (by omega)
  rw [this, runesAt, List.take_nil]
  cases k <;> simp [pre]
 | succ b ih =>
  intro k i hb hi hv
  cases k with
  | zero => simp [pre]
  | succ k =>
   rw [runesAt, pre]
   by_cases hlt : i < s.size
   ·have hne : s.data.toList.drop i ≠ [] := fun e => by have := congrArg List.length e; rw [List.length_drop, hl] at this; simp at this; omega
    obtain ⟨hb1, hv1⟩ := validD_next hne hv
    have hw := decodeL_width (s.data.toList.drop i)
    have hwl := decodeL_le (s.data.toList.drop i) hne
    have henc := encode_decode _ hne hb1
    rw [List.drop_drop] at hv1
    rw [decodeL_drop] at hw hwl hv1 henc
    rw [List.length_drop, hl] at hwl
    rw [if_pos hlt, if_neg hne, List.take_succ_cons, List.map_cons, List.flatten_cons, ih k _ (by omega) (by omega) hv1, decodeL_drop, List.drop_drop]
    congr 1
   ·have : s.data.toList.drop i = [] := List.drop_of_length_le (by omega)
    rw [if_neg hlt, this, if_pos rfl, List.take_nil, List.map_nil, List.flatten_nil]

theorem cut_pre {s : ByteArray} (hv : validD s.data.toList = true) (k : Nat) : (runesBytes ((runesS s).take k)).data.toList = pre k s.data.toList := by
 rw [runesBytes_list]
 exact runes_pre s s.size k 0 (by omega) (by omega) hv

def wid (b : Nat) : Nat := if b < 128 then 1 else if b / 32 = 6 then 2 else if b / 16 = 14 then 3 else 4

theorem decodeN_wid (n b0 b1 b2 b3 : Nat) (h : ¬ ((decodeN n b0 b1 b2 b3).1 = 65533 ∧ (decodeN n b0 b1 b2 b3).2 = 1)) : (decodeN n b0 b1 b2 b3).2 = wid b0 := by
 unfold decodeN wid at *
 by_cases h1 : b0 < 128
 ·rw [if_pos h1, if_pos h1]
 rw [if_neg h1] at h ⊢
 rw [if_neg h1]
 by_cases h2 : b0 / 32 = 6 ∧ (1 < n ∧ b1 / 64 = 2)
 ·rw [if_pos h2] at h ⊢
  rw [if_pos h2.1]
  split
  ·rfl
  ·rename_i h3; rw [if_neg h3] at h; exact absurd ⟨rfl, rfl⟩ h
 rw [if_neg h2] at h ⊢
 by_cases h3 : b0 / 16 = 14 ∧ (1 < n ∧ b1 / 64 = 2) ∧ (2 < n ∧ b2 / 64 = 2)
 ·rw [if_pos h3] at h ⊢
  rw [if_neg (show ¬ b0 / 32 = 6 by omega), if_pos h3.1]
  split
  ·rfl
  ·rename_i h4; rw [if_neg h4] at h; exact absurd ⟨rfl, rfl⟩ h
 rw [if_neg h3] at h ⊢
 by_cases h4 : b0 / 8 = 30 ∧ (1 < n ∧ b1 / 64 = 2) ∧ (2 < n ∧ b2 / 64 = 2) ∧ (3 < n ∧ b3 / 64 = 2)
 ·rw [if_pos h4] at h ⊢
  rw [if_neg (show ¬ b0 / 32 = 6 by omega), if_neg (show ¬ b0 / 16 = 14 by omega)]
  split
  ·rfl
  ·rename_i h5; rw [if_neg h5] at h; exact absurd ⟨rfl, rfl⟩ h
 ·rw [if_neg h4] at h; exact absurd ⟨rfl, rfl⟩ h

theorem width_first {l : List UInt8} (hne : l ≠ []) (hv : validD l = true) : (decodeL l).2 = wid (l.getD 0 0).toNat := by
 have := (validD_next hne hv).1
 rw [decodeL_N] at this ⊢
 exact decodeN_wid _ _ _ _ _ this

theorem cB_app : ∀ (p q X Y : List UInt8), p.length = q.length → Ord.cB (p ++ X) (q ++ Y) = Ord.or' (Ord.cB p q) (Ord.cB X Y)
 | [], [], X, Y, _ => by rw [List.nil_append, List.nil_append, show Ord.cB [] [] = 0 by decide, Ord.or_zero]
 | x :: p, y :: q, X, Y, h => by
  rw [List.cons_append, List.cons_append, Ord.cB_cons, Ord.cB_cons, cB_app p q X Y (by simpa using h)]
  unfold Ord.or'
  by_cases h1 : Ord.c3 x.toNat y.toNat = 0
  ·simp [h1]
  ·simp [h1]
 | [], _ :: _, _, _, h => by simp at h
 | _ :: _, [], _, _, h => by simp at h

theorem cB_nil (m : List UInt8) : Ord.cB [] m ≤ 0 := by
 cases m with
 | nil => decide
 | cons b m => simp [Ord.cB, Op.bytesLess]

theorem cB_nil_r (b : UInt8) (l : List UInt8) : Ord.cB (b :: l) [] = 1 := by simp [Ord.cB, Op.bytesLess]

theorem pre_le : ∀ (k : Nat) (l m : List UInt8), validD l = true → validD m = true → Ord.cB l m ≤ 0 → Ord.cB (pre k l) (pre k m) ≤ 0
 | 0, l, m, _, _, _ => by simp only [pre]; decide
 | k + 1, [], m, _, _, _ => by rw [pre, if_pos rfl]; exact cB_nil _
 | k + 1, x :: l, [], _, _, h => by rw [cB_nil_r] at h; omega
 | k + 1, x :: l, y :: m, hl, hm, h => by
  have n1 : x :: l ≠ [] := by simp
  have n2 : y :: m ≠ [] := by simp
  have w1 := decodeL_width (x :: l)
  have w2 := decodeL_width (y :: m)
  have e1 := decodeL_le _ n1
  have e2 := decodeL_le _ n2
  have v1 := (validD_next n1 hl).2
  have v2 := (validD_next n2 hm).2
  have f1 := width_first n1 hl
  have f2 := width_first n2 hm
  rw [pre, pre, if_neg n1, if_neg n2]
  by_cases hxy : x = y
  ·subst hxy
   have hw : (decodeL (x :: l)).2 = (decodeL (x :: m)).2 := by rw [f1, f2]; rfl
   rw [← hw] at e2 v2 ⊢
   generalize (decodeL (x :: l)).2 = w at *
   have hlen : ((x :: l).take w).length = ((x :: m).take w).length := by rw [List.length_take, List.length_take]; omega
   have hc : Ord.cB (x :: l) (x :: m) = Ord.or' (Ord.cB ((x :: l).take w) ((x :: m).take w)) (Ord.cB ((x :: l).drop w) ((x :: m).drop w)) := by
    rw [← cB_app _ _ _ _ hlen, List.take_append_drop, List.take_append_drop]
   rw [cB_app _ _ _ _ hlen]
   rw [hc] at h
   unfold Ord.or' at h ⊢
   by_cases h0 : Ord.cB ((x :: l).take w) ((x :: m).take w) = 0
   ·rw [h0, if_neg (by simp)] at h ⊢
    exact pre_le k _ _ v1 v2 h
   ·rw [if_pos h0] at h ⊢; exact h
  ·have hne : x.toNat ≠ y.toNat := fun h => hxy (UInt8.toNat_inj.1 h)
   obtain ⟨a, ha⟩ : ∃ a, (decodeL (x :: l)).2 = a + 1 := ⟨(decodeL (x :: l)).2 - 1, by omega⟩
   obtain ⟨b, hb⟩ : ∃ b, (decodeL (y :: m)).2 = b + 1 := ⟨(decodeL (y :: m)).2 - 1, by omega⟩
   rw [ha, hb, List.take_succ_cons, List.take_succ_cons, List.cons_append, List.cons_append, Ord.cB_cons]
   rw [Ord.cB_cons] at h
   have hc : Ord.c3 x.toNat y.toNat ≠ 0 := by unfold Ord.c3; split <;> (try split) <;> omega
   unfold Ord.or' at h ⊢
   rw [if_pos hc] at h ⊢
   exact h

end Go.Proofs.YtmaemlebpjnmoaaDoor
namespace Go.Proofs.YtmaemlebpjnmoaaDoor
open Go Go.SX Go.SX.Cal Go.Lib
set_option linter.unusedVariables false
set_option linter.unusedSimpArgs false

theorem leafTab (t : GType) : table_leaf t = some (decide (t.kind ≠ 6 ∧ t.kind ≠ 7)) := by
 unfold table_leaf table_leaf_j1
 by_cases h6 : t.kind = 6 <;> by_cases h7 : t.kind = 7 <;> simp [h6, h7, ift_ite]

def nulT : GType := ⟨0, 0, []⟩
def ttR (p : GTransform) (t : GType) : GType × Int :=
 if t.kind = 6 ∨ t.kind = 7 then (nulT, 2) else if p.kind = 3 ∧ t.kind ≠ 2 ∧ t.kind ≠ 3 ∧ t.kind ≠ 4 then (nulT, 2) else if 4 ≤ p.kind ∧ t.kind ≠ 5 then (nulT, 2)
 else if p.kind = 2 ∨ 4 ≤ p.kind then (⟨2, 0, []⟩, 0) else (t, 0)
def ttS (p : GTransform) (t : GType) (e : Int) : GType × Int :=
 if e ≠ 0 then (nulT, e) else if p.kind < 0 ∨ 7 < p.kind then (nulT, 3)
 else if p.kind = 2 ∨ p.kind = 3 then (if p.param < 1 ∨ 1000000 < p.param then (nulT, 3) else ttR p t) else if p.param ≠ 0 then (nulT, 3) else ttR p t

theorem tab4 (p : GTransform) (t : GType) : table_TransformType_j4 p t = some (ttR p t) := by
 unfold table_TransformType_j4 table_TransformType_j5 table_TransformType_j6 table_TransformType_j7 ttR nulT
 rw [leafTab]
 simp only [bnd_eq, ift_ite]
 by_cases h6 : t.kind = 6
 ·simp [h6]
 by_cases h7 : t.kind = 7
 ·simp [h7]
 by_cases h3 : p.kind = 3
 ·by_cases t2 : t.kind = 2
  ·simp [h6, h7, h3, t2]
  by_cases t3 : t.kind = 3
  ·simp [h6, h7, h3, t2, t3]
  by_cases t4 : t.kind = 4
  ·simp [h6, h7, h3, t2, t3, t4]
  simp [h6, h7, h3, t2, t3, t4]
 ·by_cases h4 : 4 ≤ p.kind
  ·by_cases t5 : t.kind = 5
   ·simp [h6, h7, h3, h4, t5]
   ·simp [h6, h7, h3, h4, t5]
  ·by_cases h2 : p.kind = 2
   ·simp [h6, h7, h3, h4, h2]
   ·simp [h6, h7, h3, h4, h2]

theorem ct_leaf (k s : Int) : ∃ e, value_CheckType ⟨k, s, []⟩ = some e ∧ (e = 0 → 1 ≤ k ∧ k ≤ 5) := by
 obtain ⟨K, hK⟩ : ∃ K, BIG = K + 1 := ⟨BIG - 1, by rw [big_val]⟩
 have ho : FsOk (GType.mk k s []).fields := fsOk_of (by simp [sizeF])
 have hj : ∀ (q : GType → Int → GChecker → Option (Int × GChecker)) (l z : Int), ∃ y, value_checker_check_j2 q ⟨k, s, []⟩ l z = some (shp ⟨k, s, []⟩, y) := fun q l z => by
  rw [checkJ2 ho]
  by_cases h : shp ⟨k, s, []⟩ = 0
  ·rw [if_neg (fun hn => hn h), h, hK]; exact ⟨_, rfl⟩
  ·rw [if_pos h]; exact ⟨_, rfl⟩
 refine ⟨shp ⟨k, s, []⟩, ?_, fun h => ?_⟩
 ·unfold value_CheckType
  rw [hK, value_checker_check, show decide ((4 : Int) < 1) = false from rfl, ift_false, leafV, bnd_eq]
  have h1 : value_checker_check_j1 (value_checker_check K) ⟨k, s, []⟩ 1 ⟨0⟩ false = some (shp ⟨k, s, []⟩, (Classical.choose (show ∃ y, value_checker_check_j1 (value_checker_check K) ⟨k, s, []⟩ 1 ⟨0⟩ false = some (shp ⟨k, s, []⟩, y) by
    unfold value_checker_check_j1
    rw [ift_false, leafV, bnd_eq]
    cases decide ((GType.mk k s []).kind ≠ 6 ∧ (GType.mk k s []).kind ≠ 7) with
    | true => rw [ift_true]; exact hj _ _ _
    | false => rw [ift_false]; exact hj _ _ _))) := Classical.choose_spec (show ∃ y, value_checker_check_j1 (value_checker_check K) ⟨k, s, []⟩ 1 ⟨0⟩ false = some (shp ⟨k, s, []⟩, y) by
    unfold value_checker_check_j1
    rw [ift_false, leafV, bnd_eq]
    cases decide ((GType.mk k s []).kind ≠ 6 ∧ (GType.mk k s []).kind ≠ 7) with
    | true => rw [ift_true]; exact hj _ _ _
    | false => rw [ift_false]; exact hj _ _ _)
  cases decide ((GType.mk k s []).kind ≠ 6 ∧ (GType.mk k s []).kind ≠ 7) with
  | true => rw [ift_true, show (((0 : Int)) == 40) = false from rfl, h1, bnd_eq]
  | false => rw [ift_false, h1, bnd_eq]
 ·unfold shp at h
  split at h
  ·omega
  ·rename_i hk
   simp only at hk
   split at h
   ·omega
   ·unfold vf at h
    simp only at h
    by_cases h6 : k = 6
    ·rw [if_pos h6, if_pos (.inl (by decide))] at h; omega
    ·rw [if_neg h6] at h
     by_cases h7 : k = 7
     ·rw [if_neg (fun hn => hn h7), List.length_nil, if_pos rfl] at h; omega
     ·omega

theorem tt (p : GTransform) (k s : Int) : ∃ e, (e = 0 → 1 ≤ k ∧ k ≤ 5) ∧ table_TransformType p ⟨k, s, []⟩ = some (ttS p ⟨k, s, []⟩ e) := by
 obtain ⟨e, h1, h3⟩ := ct_leaf k s
 refine ⟨e, h3, ?_⟩
 ·unfold table_TransformType ttS
  rw [h1]
  by_cases he : e = 0
  ·subst he
   unfold table_TransformType_j1 table_TransformType_j2 table_TransformType_j3
   rw [tab4]
   simp only [bnd_eq, ift_ite, nulT]
   by_cases k0 : p.kind < 0
   ·simp [k0]
   by_cases k7 : 7 < p.kind
   ·simp [k0, k7]
   by_cases k2 : p.kind = 2
   ·by_cases m1 : p.param < 1
    ·simp [k0, k7, k2, m1]
    by_cases m2 : 1000000 < p.param
    ·simp [k0, k7, k2, m1, m2]
    simp [k0, k7, k2, m1, m2]
   by_cases k3 : p.kind = 3
   ·by_cases m1 : p.param < 1
    ·simp [k0, k7, k2, k3, m1]
    by_cases m2 : 1000000 < p.param
    ·simp [k0, k7, k2, k3, m1, m2]
    simp [k0, k7, k2, k3, m1, m2]
   by_cases m0 : p.param = 0
   ·simp [k0, k7, k2, k3, m0]
   ·simp [k0, k7, k2, k3, m0]
  ·simp [he, ift_ite, bnd_eq, nulT]
structure TOk (p : GTransform) (t : GType) : Prop where
 v : 1 ≤ t.kind ∧ t.kind ≤ 5
 k6 : t.kind ≠ 6
 k7 : t.kind ≠ 7
 lo : 0 ≤ p.kind
 hi : p.kind ≤ 7
 par : p.kind = 2 ∨ p.kind = 3 → 1 ≤ p.param ∧ p.param ≤ 1000000
 cut : p.kind = 3 → t.kind = 2 ∨ t.kind = 3 ∨ t.kind = 4
 tim : 4 ≤ p.kind → t.kind = 5

theorem ttS_ok {p : GTransform} {t : GType} {e : Int} (hv : e = 0 → 1 ≤ t.kind ∧ t.kind ≤ 5) (h : (ttS p t e).2 = 0) : TOk p t := by
 unfold ttS ttR at h
 by_cases he : e = 0
 ·subst he
  rw [if_neg (by decide)] at h
  by_cases hk : p.kind < 0 ∨ 7 < p.kind
  ·rw [if_pos hk] at h; exact absurd h (by decide)
  rw [if_neg hk] at h
  have fin : (if t.kind = 6 ∨ t.kind = 7 then (nulT, (2 : Int)) else if p.kind = 3 ∧ t.kind ≠ 2 ∧ t.kind ≠ 3 ∧ t.kind ≠ 4 then (nulT, 2) else if 4 ≤ p.kind ∧ t.kind ≠ 5 then (nulT, 2) else if p.kind = 2 ∨ 4 ≤ p.kind then (⟨2, 0, []⟩, 0) else (t, 0)).2 = 0 →
    t.kind ≠ 6 ∧ t.kind ≠ 7 ∧ (p.kind = 3 → t.kind = 2 ∨ t.kind = 3 ∨ t.kind = 4) ∧ (4 ≤ p.kind → t.kind = 5) := fun h => by
   by_cases a : t.kind = 6 ∨ t.kind = 7
   ·rw [if_pos a] at h; exact absurd h (by decide)
   rw [if_neg a] at h
   by_cases b : p.kind = 3 ∧ t.kind ≠ 2 ∧ t.kind ≠ 3 ∧ t.kind ≠ 4
   ·rw [if_pos b] at h; exact absurd h (by decide)
   rw [if_neg b] at h
   by_cases c : 4 ≤ p.kind ∧ t.kind ≠ 5
   ·rw [if_pos c] at h; exact absurd h (by decide)
   exact ⟨by omega, by omega, by omega, by omega⟩
  by_cases h23 : p.kind = 2 ∨ p.kind = 3
  ·rw [if_pos h23] at h
   by_cases hm : p.param < 1 ∨ 1000000 < p.param
   ·rw [if_pos hm] at h; exact absurd h (by decide)
   rw [if_neg hm] at h
   obtain ⟨a, b, c, d⟩ := fin h
   exact ⟨hv rfl, a, b, by omega, by omega, fun _ => by omega, c, d⟩
  ·rw [if_neg h23] at h
   by_cases hm : p.param ≠ 0
   ·rw [if_pos hm] at h; exact absurd h (by decide)
   rw [if_neg hm] at h
   obtain ⟨a, b, c, d⟩ := fin h
   exact ⟨hv rfl, a, b, by omega, by omega, fun h => absurd h h23, c, d⟩
 ·rw [if_pos he] at h; exact absurd h he

def nulV : GValue := ⟨0, 0, 0, ByteArray.empty, []⟩

theorem grd_ok {β : Type} {p : Prop} [Decidable p] {x : Option β} (h : p) : grd p x = x := if_pos h

theorem floor_eq {a b : Int} (hb : 0 < b ∧ b ≤ 1000000) (ha : -999999999999999999 ≤ a ∧ a ≤ 999999999999999999) : table_floor a b = some (a / b) := by
 obtain ⟨b0, b1⟩ := hb
 have hq : a.tdiv b = if 0 ≤ a then a / b else -((-a) / b) := by
  by_cases h : 0 ≤ a
  ·rw [if_pos h, Int.tdiv_eq_ediv_of_nonneg h]
  ·rw [if_neg h]
   have := Int.neg_tdiv (-a) b
   rw [Int.neg_neg] at this
   rw [this, Int.tdiv_eq_ediv_of_nonneg (by omega)]
 have hm : b * a.tdiv b + a.tmod b = a := Int.mul_tdiv_add_tmod a b
 have hd := Int.mul_ediv_add_emod a b
 have he0 := Int.emod_nonneg a (show b ≠ 0 by omega)
 have he1 := Int.emod_lt_of_pos a b0
 have hle : -999999999999999999 ≤ a.tdiv b ∧ a.tdiv b ≤ 999999999999999999 := by
  rw [hq]
  by_cases h : 0 ≤ a
  ·rw [if_pos h]
   have h1 := Int.ediv_nonneg h (show 0 ≤ b by omega)
   have h2 := Int.ediv_le_self b h
   omega
  ·rw [if_neg h]
   have h1 := Int.ediv_nonneg (show 0 ≤ -a by omega) (show 0 ≤ b by omega)
   have h2 := Int.ediv_le_self b (show 0 ≤ -a by omega)
   omega
 have htm : (a.tmod b < 0 → a / b = a.tdiv b - 1) ∧ (¬ a.tmod b < 0 → a / b = a.tdiv b) ∧ -b < a.tmod b ∧ a.tmod b < b := by
  have h3 : -b < a.tmod b ∧ a.tmod b < b := by
   have h4 := Int.tmod_lt_of_pos a b0
   have h5 : -b < a.tmod b := by
    by_cases h : 0 ≤ a
    ·have := Int.tmod_nonneg b h; omega
    ·have h6 := Int.tmod_lt_of_pos (-a) b0
     rw [Int.neg_tmod] at h6
     omega
   exact ⟨h5, h4⟩
  have key : ∀ q r : Int, b * q + r = a → 0 ≤ r → r < b → a / b = q := fun q r h1 h2 h3 => by
   rw [← h1, Int.add_comm, Int.add_mul_ediv_left _ _ (by omega), Int.ediv_eq_zero_of_lt h2 h3]; omega
  refine ⟨fun h => key _ (a.tmod b + b) (by rw [Int.mul_sub, Int.mul_one]; omega) (by omega) (by omega), fun h => key _ _ hm (by omega) (by omega), h3.1, h3.2⟩
 obtain ⟨t1, t2, t3, t4⟩ := htm
 unfold table_floor table_floor_j1
 rw [grd_ok (by omega), grd_ok (by omega), w64 (x := a.tdiv b) (by omega) (by omega), w64 (x := a.tdiv b - 1) (by omega) (by omega)]
 by_cases h : a.tmod b < 0
 ·rw [decide_eq_true h, ift_true, t1 h]
 ·rw [decide_eq_false h, ift_false, t2 h]

def trV (p : GTransform) (v : GValue) (h y mo : Int) : GValue :=
 if p.kind = 0 then nulV else if p.kind = 1 then v else if p.kind = 2 then ⟨2, h, 0, ByteArray.empty, []⟩
 else if p.kind = 3 then (if v.kind = 4 then ⟨v.kind, v.n, v.scale, runesBytes ((runesS v.s).take p.param.toNat), v.items⟩ else ⟨v.kind, max (-999999999999999999) (v.n / p.param * p.param), v.scale, v.s, v.items⟩)
 else if p.kind = 4 then ⟨2, y - 1970, 0, ByteArray.empty, []⟩ else if p.kind = 5 then ⟨2, 12 * (y - 1970) + mo - 1, 0, ByteArray.empty, []⟩
 else if p.kind = 6 then ⟨2, v.n / 86400, 0, ByteArray.empty, []⟩ else ⟨2, v.n / 3600, 0, ByteArray.empty, []⟩

structure Lf (v : GValue) : Prop where
 k : 1 ≤ v.kind ∧ v.kind ≤ 5
 n : -999999999999999999 ≤ v.n ∧ v.n ≤ 999999999999999999
 it : v.items = []
 txt : v.kind = 4 → v.s.size ≤ 256 ∧ validD v.s.data.toList = true
 nos : v.kind ≠ 4 → v.s.size = 0
 sc : 0 ≤ v.scale ∧ v.scale ≤ 12
 tn : v.kind = 4 → v.n = 0
 mom : v.kind = 5 → -62135596800 ≤ v.n ∧ v.n ≤ 253402300799

theorem plain_of_sound {v : GValue} (h : soundB v = true) : plainOk v = true := by
 unfold soundB soundD at h
 split at h
 ·cases h
 ·rename_i hn
  cases hp : plainOk v with
  | true => rfl
  | false => exact absurd (.inr hp) hn

theorem lf_of {v : GValue} (h : soundB v = true) (h6 : v.kind ≠ 6) (h7 : v.kind ≠ 7) (h0 : v.kind ≠ 0) : Lf v := by
 have hp : plainOk v = true := plain_of_sound h
 unfold plainOk at hp
 have e0 : ∀ (l : List GValue), ((l.length : Int) == 0) = true → l = [] := fun l h => List.eq_nil_of_length_eq_zero (by have := eq_of_beq h; omega)
 by_cases k1 : v.kind = 1
 ·simp only [k1] at hp; simp at hp
  exact ⟨by omega, by omega, by have := hp.2.2.2; exact List.eq_nil_of_length_eq_zero (by simpa using this), by omega, fun _ => by rw [hp.2.2.1]; rfl, by omega, by omega, by omega⟩
 by_cases k2 : v.kind = 2
 ·simp only [k2] at hp; simp at hp
  exact ⟨by omega, by omega, by have := hp.2.2.2; exact List.eq_nil_of_length_eq_zero (by simpa using this), by omega, fun _ => by rw [hp.2.2.1]; rfl, by omega, by omega, by omega⟩
 by_cases k3 : v.kind = 3
 ·simp only [k3] at hp; simp at hp
  exact ⟨by omega, by omega, by have := hp.2.2.2; exact List.eq_nil_of_length_eq_zero (by simpa using this), by omega, fun _ => by rw [hp.2.2.1]; rfl, by omega, by omega, by omega⟩
 by_cases k4 : v.kind = 4
 ·simp only [k4] at hp; simp [textOk] at hp
  exact ⟨by omega, by omega, by have := hp.2.2; exact List.eq_nil_of_length_eq_zero (by simpa using this), fun _ => ⟨hp.2.1.1, hp.2.1.2.1⟩, fun h => absurd k4 h, by omega, by omega, by omega⟩
 by_cases k5 : v.kind = 5
 ·simp only [k5] at hp; simp at hp
  exact ⟨by omega, by omega, by have := hp.2.2.2; exact List.eq_nil_of_length_eq_zero (by simpa using this), by omega, fun _ => by rw [hp.2.2.1]; rfl, by omega, by omega, by omega⟩
 simp [k1, k2, k3, k4, k5, h6, h7, h0] at hp

def utc : ByteArray := ByteArray.mk #[117, 116, 99]
def utcZ : GZone := GZone.mk utc 0 0 (GTurn.mk 0 0 0 0) (GTurn.mk 0 0 0 0)

theorem zoneU : value_zone utc = some (utcZ, true) := by kernel_rfl
theorem aheadU (m : Int) : value_ahead utcZ m = some 0 := rfl

theorem localU {n : Int} (h0 : -62135596800 ≤ n) (h1 : n ≤ 253402300799) : value_Local n utc = some (Tm.civ n, 0) := by
 unfold value_Local
 rw [zoneU, bnd_eq, Bool.not_true, ift_false, Tm.within_eq, bnd_eq, decide_eq_true ⟨h0, h1⟩, Bool.not_true, ift_false, aheadU, bnd_eq, Int.add_zero, w64 (by omega) (by omega), Tm.civil_eq (by omega) (by omega), bnd_eq]

theorem partU {n : Int} (h0 : -62135596800 ≤ n) (h1 : n ≤ 253402300799) : value_Part n 1 utc = some ((Tm.civ n).year, 0) ∧ value_Part n 2 utc = some ((Tm.civ n).month, 0) := by
 obtain ⟨f, _, _, _⟩ := Tm.civ_ok (s := n) (by omega) (by omega)
 have hd : value_days (Tm.civ n).year (Tm.civ n).month (Tm.civ n).day = some (Cal.days (Tm.civ n).year (Tm.civ n).month (Tm.civ n).day) := Tm.days_eq (by have := f.y0; omega) (by have := f.y1; omega) (by have := f.m0; omega) (by have := f.m1; omega) (by have := f.d0; omega) (by have := f.d1; omega)
 unfold value_Part
 rw [localU h0 h1, bnd_eq, bnd_eq, show ((0 : Int) != 0) = false from rfl, ift_false, ift_false, hd, bnd_eq, bnd_eq]
 exact ⟨rfl, rfl⟩

end Go.Proofs.YtmaemlebpjnmoaaDoor
namespace Go.Proofs.YtmaemlebpjnmoaaDoor
open Go Go.SX Go.SX.Cal Go.Lib
set_option linter.unusedVariables false
set_option linter.unusedSimpArgs false

theorem number_eq (q : Int) : table_number q = some ⟨2, q, 0, ByteArray.empty, []⟩ := rfl

theorem ba_ext {a b : ByteArray} (h : a.data.toList = b.data.toList) : a = b := by
 cases a; cases b
 congr
 exact Array.ext' h

theorem cutT {p : GTransform} {v : GValue} (hk : v.kind = 4) (hs : v.s.size < 1000000) (hp : 0 ≤ p.param) :
  table_truncated v p.param = some ⟨v.kind, v.n, v.scale, runesBytes ((runesS v.s).take p.param.toNat), v.items⟩ := by
 have hlen : (runesS v.s).length ≤ v.s.size := runesAt_len v.s v.s.size 0
 unfold table_truncated
 have hy : ∃ y : Int, (if ((runesS v.s).length : Int) < p.param then ((runesS v.s).length : Int) else p.param) = y ∧ 0 ≤ y ∧ y ≤ ((runesS v.s).length : Int) ∧ (runesS v.s).take y.toNat = (runesS v.s).take p.param.toNat := by
  by_cases h : ((runesS v.s).length : Int) < p.param
  ·rw [if_pos h]; exact ⟨_, rfl, by omega, by omega, by rw [List.take_of_length_le (by omega), List.take_of_length_le (by omega)]⟩
  ·rw [if_neg h]; exact ⟨_, rfl, hp, by omega, rfl⟩
 obtain ⟨y, y1, y2, y3, y4⟩ := hy
 rw [hk, show ((4 : Int) == 4) = true from rfl, ift_true, y1]
 unfold grd
 rw [if_pos (by omega), bnd_eq, if_pos ⟨by omega, y2, y3⟩]
 rw [show ((0 : Int).toNat) = 0 from rfl, Nat.sub_zero, List.drop_zero, y4]

theorem cutN {p : GTransform} {v : GValue} (h4 : v.kind ≠ 4) (hm : 1 ≤ p.param ∧ p.param ≤ 1000000) (hn : -999999999999999999 ≤ v.n ∧ v.n ≤ 999999999999999999) :
  table_truncated v p.param = some ⟨v.kind, max (-999999999999999999) (v.n / p.param * p.param), v.scale, v.s, v.items⟩ := by
 have f1 := floor_eq (a := v.n) (b := p.param) (by omega) hn
 have hd := Int.mul_ediv_add_emod v.n p.param
 have he0 := Int.emod_nonneg v.n (show p.param ≠ 0 by omega)
 have he1 := Int.emod_lt_of_pos v.n (show 0 < p.param by omega)
 have hc : v.n / p.param * p.param = v.n - v.n % p.param := by rw [Int.mul_comm]; omega
 unfold table_truncated
 rw [show (v.kind == 4) = false from beq_eq_false_iff_ne.2 h4, ift_false, f1, bnd_eq, hc, w64 (by omega) (by omega), bnd_eq]
 congr 2
 rw [Int.max_def]
 by_cases h : -999999999999999999 > v.n - v.n % p.param
 ·rw [if_pos h, if_neg (by omega)]
 ·rw [if_neg h, if_pos (by omega)]

theorem tr_core {p : GTransform} {v : GValue} (hl : Lf v) (hk : TOk p ⟨v.kind, v.scale, []⟩) (h2 : p.kind ≠ 2) :
  table_Transform_j1 p v false = some (trV p v 0 (Tm.civ v.n).year (Tm.civ v.n).month) := by
 obtain ⟨k, m⟩ := p
 have hlo : 0 ≤ k := hk.lo
 have hhi : k ≤ 7 := hk.hi
 have hpar : k = 2 ∨ k = 3 → 1 ≤ m ∧ m ≤ 1000000 := hk.par
 have htim : 4 ≤ k → v.kind = 5 := hk.tim
 have hj : ∃ y mo, table_Transform_j1 ⟨k, m⟩ v false = table_Transform_j2 ⟨k, m⟩ v y mo ∧ (4 ≤ k → y = (Tm.civ v.n).year ∧ mo = (Tm.civ v.n).month) := by
  unfold table_Transform_j1
  rw [ift_false]
  by_cases h5 : v.kind = 5
  ·obtain ⟨m0, m1⟩ := hl.mom h5
   obtain ⟨p1, p2⟩ := partU m0 m1
   refine ⟨_, _, ?_, fun _ => ⟨rfl, rfl⟩⟩
   rw [h5, show ((5 : Int) == 5) = true from rfl, ift_true]
   rw [show (ByteArray.mk #[117, 116, 99]) = utc from rfl, p1, p2, bnd_eq, bnd_eq]
  ·rw [show (v.kind == 5) = false from beq_eq_false_iff_ne.2 h5, ift_false]
   exact ⟨0, 0, rfl, fun h => absurd (htim h) h5⟩
 obtain ⟨y, mo, j1, j2⟩ := hj
 rw [j1]
 unfold table_Transform_j2
 have hk8 : k = 0 ∨ k = 1 ∨ k = 3 ∨ k = 4 ∨ k = 5 ∨ k = 6 ∨ k = 7 := by have : k ≠ 2 := h2; omega
 have hyb : v.kind = 5 → 0 ≤ (Tm.civ v.n).year ∧ (Tm.civ v.n).year ≤ 10000 ∧ 1 ≤ (Tm.civ v.n).month ∧ (Tm.civ v.n).month ≤ 12 := fun h5 => by
  obtain ⟨m0, m1⟩ := hl.mom h5
  have := Tm.years_of (s := v.n) (by omega) (by omega)
  obtain ⟨f, _⟩ := Tm.civ_ok (s := v.n) (by omega) (by omega)
  exact ⟨this.1, this.2, f.m0, f.m1⟩
 rcases hk8 with rfl | rfl | rfl | rfl | rfl | rfl | rfl
 ·rfl
 ·rfl
 ·have hm := hpar (.inr rfl)
  by_cases h4 : v.kind = 4
  ·obtain ⟨t1, t2⟩ := hl.txt h4
   have c1 := cutT (p := ⟨3, m⟩) h4 (by omega) (by show 0 ≤ m; omega)
   have hx : trV ⟨3, m⟩ v 0 (Tm.civ v.n).year (Tm.civ v.n).month = ⟨v.kind, v.n, v.scale, runesBytes ((runesS v.s).take m.toNat), v.items⟩ := if_pos h4
   show (bnd (table_truncated v m) fun r7 => some r7) = _
   rw [show table_truncated v m = _ from c1, bnd_eq, hx]
  ·have c1 := cutN (p := ⟨3, m⟩) h4 hm hl.n
   have hx : trV ⟨3, m⟩ v 0 (Tm.civ v.n).year (Tm.civ v.n).month = ⟨v.kind, max (-999999999999999999) (v.n / m * m), v.scale, v.s, v.items⟩ := if_neg h4
   show (bnd (table_truncated v m) fun r7 => some r7) = _
   rw [show table_truncated v m = _ from c1, bnd_eq, hx]
 ·obtain ⟨rfl, rfl⟩ := j2 (by decide)
  obtain ⟨b1, b2, b3, b4⟩ := hyb (htim (by decide))
  show (bnd (table_number (IntKind.i64.wrap ((Tm.civ v.n).year - (1970 : Int)))) fun r8 => some r8) = _
  rw [number_eq, bnd_eq, w64 (by omega) (by omega)]; rfl
 ·obtain ⟨rfl, rfl⟩ := j2 (by decide)
  obtain ⟨b1, b2, b3, b4⟩ := hyb (htim (by decide))
  show (bnd (some (IntKind.i64.wrap ((12 : Int) * (IntKind.i64.wrap ((Tm.civ v.n).year - (1970 : Int)))))) fun y1 => bnd (table_number (IntKind.i64.wrap ((IntKind.i64.wrap (y1 + (Tm.civ v.n).month)) - (1 : Int)))) fun r9 => some r9) = _
  rw [bnd_eq, w64 (x := (Tm.civ v.n).year - 1970) (by omega) (by omega), w64 (x := 12 * ((Tm.civ v.n).year - 1970)) (by omega) (by omega), w64 (x := 12 * ((Tm.civ v.n).year - 1970) + (Tm.civ v.n).month) (by omega) (by omega), number_eq, bnd_eq, w64 (by omega) (by omega)]; rfl
 ·have f1 := floor_eq (a := v.n) (b := 86400) (by omega) hl.n
  show (bnd (table_floor v.n (86400 : Int)) fun r10 => bnd (table_number r10) fun r11 => some r11) = _
  rw [f1, bnd_eq, number_eq, bnd_eq]; rfl
 ·have f1 := floor_eq (a := v.n) (b := 3600) (by omega) hl.n
  show (bnd (table_floor v.n (3600 : Int)) fun r10 => bnd (table_number r10) fun r11 => some r11) = _
  rw [f1, bnd_eq, number_eq, bnd_eq]; rfl

/-! ### months -/

theorem month_mono (y : Int) : ∀ (d : Nat) (k : Int), 1 ≤ k → k + d ≤ 12 → Cal.days y k 1 ≤ Cal.days y (k + d) 1
 | 0, k, _, _ => by rw [show k + ((0 : Nat) : Int) = k by omega]; exact Int.le_refl _
 | d + 1, k, h1, h2 => by
  have h3 := month_mono y d k h1 (by omega)
  have h4 := Tm.month_step y (k + d) (by omega) (by omega)
  have h5 := Tm.dim_bound y (k + d)
  rw [show k + ((d + 1 : Nat) : Int) = k + (d : Int) + 1 by omega, h4]
  omega

theorem date_mono {N M : Int} (h : N ≤ M) : (Cal.date N).1 < (Cal.date M).1 ∨ ((Cal.date N).1 = (Cal.date M).1 ∧ (Cal.date N).2.1 ≤ (Cal.date M).2.1) := by
 obtain ⟨a1, a2⟩ := (year_iff (n := N) (y := (Cal.date N).1)).1 rfl
 obtain ⟨b1, b2⟩ := (year_iff (n := M) (y := (Cal.date M).1)).1 rfl
 by_cases hlt : (Cal.date N).1 < (Cal.date M).1
 ·exact .inl hlt
 refine .inr ?_
 have hle : (Cal.date N).1 = (Cal.date M).1 := by
  apply Classical.byContradiction
  intro hne
  have := days_mono (y := (Cal.date M).1 + 1) (z := (Cal.date N).1) (by omega)
  omega
 refine ⟨hle, ?_⟩
 apply Classical.byContradiction
 intro hc
 obtain ⟨e1, m1, m2, d1, d2⟩ := date_ok N
 obtain ⟨e2, m3, m4, d3, d4⟩ := date_ok M
 rw [Tm.days_d] at e1 e2
 have hs := Tm.month_step (Cal.date M).1 (Cal.date M).2.1 (by omega) (by omega)
 have hm := month_mono (Cal.date M).1 ((Cal.date N).2.1 - ((Cal.date M).2.1 + 1)).toNat ((Cal.date M).2.1 + 1) (by omega) (by omega)
 rw [show (Cal.date M).2.1 + 1 + (((Cal.date N).2.1 - ((Cal.date M).2.1 + 1)).toNat : Int) = (Cal.date N).2.1 by omega] at hm
 rw [hle] at e1
 omega

end Go.Proofs.YtmaemlebpjnmoaaDoor
namespace Go.Proofs.YtmaemlebpjnmoaaDoor.Ord
open Go Go.SX Go.SX.Cal
set_option linter.unusedVariables false

theorem wfL_of : ∀ {l : List GValue}, (∀ x ∈ l, wfV x) → wfL l
 | [], _ => by simp [wfL]
 | x :: l, h => by
  simp only [wfL]
  exact ⟨h x (by simp), wfL_of (fun y hy => h y (by simp [hy]))⟩

theorem wf_mk (k n sc : Int) (s : ByteArray) (it : List GValue) (h1 : i64ok k) (h2 : i64ok n) (h3 : i64ok sc) (h4 : ∀ x ∈ it, wfV x) : wfV ⟨k, n, sc, s, it⟩ := by
 have e : ∀ x, i64ok x → i64 x := fun x h => by
  have h1 : IntKind.min .i64 = -9223372036854775808 := rfl
  have h2 : IntKind.max .i64 = 9223372036854775807 := rfl
  unfold i64ok at h
  rw [h1, h2] at h
  exact h
 simp only [wfV]
 exact ⟨e k h1, e n h2, e sc h3, wfL_of h4⟩

theorem sizeL_sum : ∀ l : List GValue, sizeL l = (l.map sizeV).sum
 | [] => by simp [sizeL]
 | x :: l => by simp [sizeL, sizeL_sum l]

theorem sz_mk (k n sc : Int) (s : ByteArray) (it : List GValue) : sizeV ⟨k, n, sc, s, it⟩ ≤ s.size + (it.map sizeV).sum + 6 := by
 simp only [sizeV, sizeL_sum]; omega

theorem arg_value {w : World} {v : Value} {x : GValue} (h : AVRel ⟨fun _ => none, fun _ => False⟩ w [] v (.ag ((GValue.cells x).map .pv))) : AVRel ⟨fun _ => none, fun _ => False⟩ w [] v (.ag [ci x.kind, ci x.n, ci x.scale, cst x.s, cl eValue x.items]) := by
 cases x; exact h

end Go.Proofs.YtmaemlebpjnmoaaDoor.Ord
namespace Go.Proofs.YtmaemlebpjnmoaaDoor
open Go Go.SX Go.SX.Cal Go.Lib
set_option linter.unusedVariables false
set_option linter.unusedSimpArgs false

mutual
theorem sz_same : ∀ v : GValue, Ord.sizeV v = sizeV v
 | ⟨_, _, _, _, it⟩ => by simp only [Ord.sizeV, sizeV, szL_same it]
theorem szL_same : ∀ l : List GValue, Ord.sizeL l = sizeL l
 | [] => by simp only [Ord.sizeL, sizeL]
 | x :: l => by simp only [Ord.sizeL, sizeL, sz_same x, szL_same l]
end

theorem or_z (x : Int) : Ord.or' x 0 = x := by unfold Ord.or'; split <;> omega

theorem cmpV_leaf (k n m sc : Int) (s t : ByteArray) : Ord.cmpV ⟨k, n, sc, s, []⟩ ⟨k, m, sc, t, []⟩ = if k = 0 then 0 else Ord.or' (Ord.c3 (Ord.vvI k sc n) (Ord.vvI k sc m)) (Ord.cS s t) := by
 simp only [Ord.cmpV, Ord.cmpL, Ord.c3_self, Ord.or_zero, or_z]

theorem cS_nil {s t : ByteArray} (hs : s.size = 0) (ht : t.size = 0) : Ord.cS s t = 0 := by
 have e : s = t := by
  refine ba_ext ?_
  have h1 : s.data.toList = [] := List.eq_nil_of_length_eq_zero (by simpa using hs)
  have h2 : t.data.toList = [] := List.eq_nil_of_length_eq_zero (by simpa using ht)
  rw [h1, h2]
 subst e
 unfold Ord.cS
 have : Op.bytesLess s.toList s.toList = false := by
  have h : ∀ l : List UInt8, Op.bytesLess l l = false := fun l => by induction l with
   | nil => rfl
   | cons a l ih => simp [Op.bytesLess, ih]
  exact h _
 rw [this]; simp

theorem c3_le {a b : Int} : Ord.c3 a b ≤ 0 ↔ a ≤ b := by unfold Ord.c3; split <;> (try split) <;> omega

theorem vv_le {k sc n m : Int} : Ord.vvI k sc n ≤ Ord.vvI k sc m ↔ n ≤ m := by
 unfold Ord.vvI
 split
 ·have hp := Ord.p10n (12 - sc).toNat
  exact ⟨fun h => Int.le_of_mul_le_mul_right h hp, fun h => Int.mul_le_mul_of_nonneg_right h (Int.le_of_lt hp)⟩
 ·exact Iff.rfl

theorem cmp_num {q r : Int} (h : q ≤ r) : Ord.cmpV ⟨2, q, 0, ByteArray.empty, []⟩ ⟨2, r, 0, ByteArray.empty, []⟩ ≤ 0 := by
 rw [cmpV_leaf, if_neg (by decide), cS_nil rfl rfl, or_z]
 exact c3_le.2 (vv_le.2 h)

theorem list_eq (s : ByteArray) : s.toList = s.data.toList := by
 simp [ByteArray.toList_eq]

theorem le_of {a b : GValue} (ha : Lf a) (hb : Lf b) (hk : a.kind = b.kind) (hs : a.scale = b.scale) (h : Ord.cmpV a b ≤ 0) : a.n ≤ b.n ∧ (a.kind = 4 → Ord.cS a.s b.s ≤ 0) := by
 obtain ⟨k, n, sc, s, it⟩ := a
 obtain ⟨k', m, sc', t, it'⟩ := b
 have e1 : it = [] := ha.it
 have e2 : it' = [] := hb.it
 simp only at hk hs
 subst e1 e2 hk hs
 have hkk := ha.k
 simp only at hkk
 rw [cmpV_leaf, if_neg (by omega)] at h
 by_cases h4 : k = 4
 ·have n0 : n = 0 := ha.tn h4
  have m0 : m = 0 := hb.tn h4
  subst n0 m0
  rw [Ord.c3_self, Ord.or_zero] at h
  exact ⟨Int.le_refl _, fun _ => h⟩
 ·rw [cS_nil (ha.nos h4) (hb.nos h4), or_z] at h
  exact ⟨vv_le.1 (c3_le.1 h), fun h => absurd h h4⟩

theorem cS_cB (s t : ByteArray) : Ord.cS s t = Ord.cB s.data.toList t.data.toList := by
 rw [Ord.cS_eq, list_eq, list_eq]

theorem civ_mono {n m : Int} (h : n ≤ m) (hn : -62135596800 ≤ n) (hm : m ≤ 253402300799) : (Tm.civ n).year ≤ (Tm.civ m).year ∧ 12 * ((Tm.civ n).year - 1970) + (Tm.civ n).month - 1 ≤ 12 * ((Tm.civ m).year - 1970) + (Tm.civ m).month - 1 := by
 have hd : n / 86400 ≤ m / 86400 := Int.ediv_le_ediv (by decide) h
 obtain ⟨f, _⟩ := Tm.civ_ok (s := n) (by omega) (by omega)
 obtain ⟨g, _⟩ := Tm.civ_ok (s := m) (by omega) (by omega)
 have f0 := f.m0
 have f1 := f.m1
 have g0 := g.m0
 have g1 := g.m1
 have hc : (Tm.civ n).year < (Tm.civ m).year ∨ ((Tm.civ n).year = (Tm.civ m).year ∧ (Tm.civ n).month ≤ (Tm.civ m).month) := date_mono hd
 omega

theorem trV_le {p : GTransform} {a b : GValue} (ha : Lf a) (hb : Lf b) (hk : a.kind = b.kind) (hs : a.scale = b.scale) (ho : TOk p ⟨a.kind, a.scale, []⟩) (h2 : p.kind ≠ 2) (h : Ord.cmpV a b ≤ 0) :
  Ord.cmpV (trV p a 0 (Tm.civ a.n).year (Tm.civ a.n).month) (trV p b 0 (Tm.civ b.n).year (Tm.civ b.n).month) ≤ 0 := by
 obtain ⟨hn, ht⟩ := le_of ha hb hk hs h
 have hpar : p.kind = 2 ∨ p.kind = 3 → 1 ≤ p.param ∧ p.param ≤ 1000000 := ho.par
 have htim : 4 ≤ p.kind → a.kind = 5 := ho.tim
 have hlo := ho.lo
 unfold trV
 by_cases k0 : p.kind = 0
 ·rw [if_pos k0, if_pos k0]; unfold nulV; rw [cmpV_leaf, if_pos rfl]; exact Int.le_refl _
 rw [if_neg k0, if_neg k0]
 by_cases k1 : p.kind = 1
 ·rw [if_pos k1, if_pos k1]; exact h
 rw [if_neg k1, if_neg k1, if_neg h2, if_neg h2]
 by_cases k3 : p.kind = 3
 ·rw [if_pos k3, if_pos k3, ← hk, ← hs, ha.it, hb.it]
  have hm := hpar (.inr k3)
  have hkk := ha.k
  by_cases h4 : a.kind = 4
  ·have h4b : b.kind = 4 := by rw [← hk]; exact h4
   rw [if_pos h4, if_pos h4, cmpV_leaf, if_neg (by omega), ha.tn h4, hb.tn h4b, Ord.c3_self, Ord.or_zero, cS_cB, cut_pre (ha.txt h4).2, cut_pre (hb.txt h4b).2]
   have hc := ht h4
   rw [cS_cB] at hc
   exact pre_le _ _ _ (ha.txt h4).2 (hb.txt h4b).2 hc
  ·have h4b : b.kind ≠ 4 := by rw [← hk]; exact h4
   rw [if_neg h4, if_neg h4, cmpV_leaf, if_neg (by omega), cS_nil (ha.nos h4) (hb.nos h4b), or_z]
   refine c3_le.2 (vv_le.2 ?_)
   have hd : a.n / p.param ≤ b.n / p.param := Int.ediv_le_ediv (by omega) hn
   have := Int.mul_le_mul_of_nonneg_right hd (show 0 ≤ p.param by omega)
   omega
 rw [if_neg k3, if_neg k3]
 have h5 := htim (by omega)
 have h5b : b.kind = 5 := by rw [← hk]; exact h5
 obtain ⟨m0, m1⟩ := ha.mom h5
 obtain ⟨m2, m3⟩ := hb.mom h5b
 obtain ⟨c1, c2⟩ := civ_mono hn m0 m3
 split
 ·exact cmp_num (by omega)
 split
 ·exact cmp_num c2
 split
 ·exact cmp_num (Int.ediv_le_ediv (by decide) hn)
 ·exact cmp_num (Int.ediv_le_ediv (by decide) hn)

theorem wf_num {q : Int} (h1 : -9223372036854775808 ≤ q) (h2 : q ≤ 9223372036854775807) : Ord.wfV ⟨2, q, 0, ByteArray.empty, []⟩ ∧ Ord.sizeV ⟨2, q, 0, ByteArray.empty, []⟩ < 100000000 := by
 refine ⟨?_, ?_⟩
 ·simp only [Ord.wfV, Ord.wfL, Ord.i64, and_true]; omega
 ·simp only [Ord.sizeV, Ord.sizeL]; decide

theorem nul_wf : Ord.wfV nulV ∧ Ord.sizeV nulV < 100000000 := by
 refine ⟨?_, ?_⟩
 ·simp only [nulV, Ord.wfV, Ord.wfL, Ord.i64, and_true]; omega
 ·simp only [nulV, Ord.sizeV, Ord.sizeL]; decide

theorem trV_wf {p : GTransform} {v : GValue} (hl : Lf v) (hk : TOk p ⟨v.kind, v.scale, []⟩) (h2 : p.kind ≠ 2) : Ord.wfV (trV p v 0 (Tm.civ v.n).year (Tm.civ v.n).month) ∧ Ord.sizeV (trV p v 0 (Tm.civ v.n).year (Tm.civ v.n).month) < 100000000 := by
 have hn := hl.n
 have hkk := hl.k
 have hsc := hl.sc
 have hpar : p.kind = 2 ∨ p.kind = 3 → 1 ≤ p.param ∧ p.param ≤ 1000000 := hk.par
 have htim : 4 ≤ p.kind → v.kind = 5 := hk.tim
 have hsz : v.s.size ≤ 256 := by
  by_cases h4 : v.kind = 4
  ·exact (hl.txt h4).1
  ·have := hl.nos h4; omega
 unfold trV
 by_cases k0 : p.kind = 0
 ·rw [if_pos k0]; exact nul_wf
 rw [if_neg k0]
 by_cases k1 : p.kind = 1
 ·rw [if_pos k1]
  obtain ⟨a, b, c, d, it⟩ := v
  have : it = [] := hl.it
  subst this
  refine ⟨?_, ?_⟩
  ·simp only [Ord.wfV, Ord.wfL, Ord.i64, and_true]; simp only at hn hkk hsc; omega
  ·simp only [Ord.sizeV, Ord.sizeL]; simp only at hsz; omega
 rw [if_neg k1, if_neg h2]
 by_cases k3 : p.kind = 3
 ·rw [if_pos k3]
  have hm := hpar (.inr k3)
  by_cases h4 : v.kind = 4
  ·rw [if_pos h4, hl.it]
   have hlen : (runesS v.s).length ≤ v.s.size := runesAt_len v.s v.s.size 0
   have hb := runesBytes_size_le ((runesS v.s).take p.param.toNat)
   have ht : ((runesS v.s).take p.param.toNat).length ≤ (runesS v.s).length := by rw [List.length_take]; omega
   refine ⟨?_, ?_⟩
   ·simp only [Ord.wfV, Ord.wfL, Ord.i64, and_true]; omega
   ·simp only [Ord.sizeV, Ord.sizeL]; omega
  ·rw [if_neg h4, hl.it]
   have hd := Int.mul_ediv_add_emod v.n p.param
   have he0 := Int.emod_nonneg v.n (show p.param ≠ 0 by omega)
   have he1 := Int.emod_lt_of_pos v.n (show 0 < p.param by omega)
   have hc : v.n / p.param * p.param = v.n - v.n % p.param := by rw [Int.mul_comm]; omega
   rw [hc]
   refine ⟨?_, ?_⟩
   ·simp only [Ord.wfV, Ord.wfL, Ord.i64, and_true]; omega
   ·simp only [Ord.sizeV, Ord.sizeL]; omega
 rw [if_neg k3]
 have h4 : 4 ≤ p.kind := by have := hk.lo; omega
 obtain ⟨m0, m1⟩ := hl.mom (htim h4)
 have hy := Tm.years_of (s := v.n) (by omega) (by omega)
 obtain ⟨f, _⟩ := Tm.civ_ok (s := v.n) (by omega) (by omega)
 have f0 := f.m0
 have f1 := f.m1
 have hy0 : 0 ≤ (Tm.civ v.n).year := hy.1
 have hy1 : (Tm.civ v.n).year ≤ 10000 := hy.2
 split
 ·exact wf_num (by omega) (by omega)
 split
 ·exact wf_num (by omega) (by omega)
 split
 ·exact wf_num (by omega) (by omega)
 ·exact wf_num (by omega) (by omega)

theorem three_ok : table_Transform ⟨1, 0⟩ ⟨2, 3, 0, ByteArray.empty, []⟩ = some ⟨2, 3, 0, ByteArray.empty, []⟩ := by kernel_rfl

theorem comp {a b : GValue} (wa : Ord.wfV a) (wb : Ord.wfV b) (h : Ord.sizeV a < 100000000) : ref1_Compare BIG a b = some (Ord.cmpV a b) :=
 Ord.rcompareV_eq (Ord.sizeV a) a b BIG (Nat.le_refl _) (by omega) wa wb (by rw [big_val]; omega)

theorem law_keep (p : GTransform) (a b : GValue) (ha : sizeV a < 10000000) (hb : sizeV b < 10000000) (wa : Ord.wfV a) (wb : Ord.wfV b) : law3_TableTransformsKeepOrder p a b = some true := by
 have jt : law3_TableTransformsKeepOrder_j1 p a b true = some true := rfl
 unfold law3_TableTransformsKeepOrder
 rw [show law3_number 3 = some ⟨2, 3, 0, ByteArray.empty, []⟩ from rfl, bnd_eq, three_ok, bnd_eq, show ((3 : Int) != 3) = false from rfl, ift_false]
 by_cases h2 : p.kind = 2
 ·rw [show (p.kind == 2) = true from beq_iff_eq.2 h2, ift_true, jt]
 rw [show (p.kind == 2) = false from beq_eq_false_iff_ne.2 h2, ift_false]
 by_cases hk : a.kind ≠ b.kind
 ·rw [show (a.kind != b.kind) = true from bne_iff_ne.2 hk, ift_true, jt]
 have hk : a.kind = b.kind := Classical.not_not.1 hk
 rw [show (a.kind != b.kind) = false by rw [hk]; exact bne_self_eq_false _, ift_false]
 by_cases hs : a.scale ≠ b.scale
 ·rw [show (a.scale != b.scale) = true from bne_iff_ne.2 hs, ift_true, jt]
 have hs : a.scale = b.scale := Classical.not_not.1 hs
 rw [show (a.scale != b.scale) = false by rw [hs]; exact bne_self_eq_false _, ift_false]
 by_cases h0 : a.kind = 0
 ·rw [show (a.kind == 0) = true from beq_iff_eq.2 h0, ift_true, jt]
 rw [show (a.kind == 0) = false from beq_eq_false_iff_ne.2 h0, ift_false, comp wa wb (by rw [sz_same]; omega), bnd_eq]
 by_cases hc : 0 < Ord.cmpV a b
 ·rw [decide_eq_true hc, ift_true, jt]
 rw [decide_eq_false hc, ift_false, rSound a (by omega), bnd_eq]
 cases sa : soundB a with
 | false => rw [Bool.not_false, ift_true, jt]
 | true =>
  rw [Bool.not_true, ift_false, rSound b (by omega), bnd_eq]
  cases sb : soundB b with
  | false => rw [Bool.not_false, jt]
  | true =>
   rw [Bool.not_true]
   unfold law3_TableTransformsKeepOrder_j1
   rw [ift_false]
   obtain ⟨e, hV, t1⟩ := tt p a.kind a.scale
   have jn : ∀ v, table_Transform_j1 p v true = some nulV := fun v => rfl
   have hT : ∀ v : GValue, v.kind = a.kind → v.scale = a.scale → soundB v = true → sizeV v < 10000000 → table_Transform p v = some (if (ttS p ⟨a.kind, a.scale, []⟩ e).2 = 0 then trV p v 0 (Tm.civ v.n).year (Tm.civ v.n).month else nulV) := fun v e1 e2 hv hz => by
    unfold table_Transform
    rw [e1, e2, t1, bnd_eq]
    by_cases h : (ttS p ⟨a.kind, a.scale, []⟩ e).2 = 0
    ·have hk := ttS_ok hV h
     rw [h, show ((0 : Int) != 0) = false from rfl, ift_false, vSound v (by omega), bnd_eq, hv, Bool.not_true, if_pos rfl]
     have hv1 : 1 ≤ a.kind ∧ a.kind ≤ 5 := hk.v
     exact tr_core (lf_of hv (by omega) (by omega) (by omega)) (by rw [e1, e2]; exact hk) h2
    ·rw [show ((ttS p ⟨a.kind, a.scale, []⟩ e).2 != 0) = true from bne_iff_ne.2 h, ift_true, if_neg h]; exact jn v
   rw [hT a rfl rfl sa ha, bnd_eq, hT b hk.symm hs.symm sb hb, bnd_eq]
   by_cases h : (ttS p ⟨a.kind, a.scale, []⟩ e).2 = 0
   ·rw [if_pos h, if_pos h]
    have ho := ttS_ok hV h
    have hv1 : 1 ≤ a.kind ∧ a.kind ≤ 5 := ho.v
    have la := lf_of sa (by omega) (by omega) (by omega)
    have lb := lf_of sb (by omega) (by omega) (by omega)
    obtain ⟨x1, x2⟩ := trV_wf la ho h2
    obtain ⟨y1, y2⟩ := trV_wf lb (by rw [← hk, ← hs]; exact ho) h2
    rw [comp x1 y1 x2, bnd_eq, decide_eq_true (trV_le la lb hk hs ho h2 (by omega))]
   ·rw [if_neg h, if_neg h, comp nul_wf.1 nul_wf.1 nul_wf.2, bnd_eq, Ord.cmpV_refl]; rfl

end Go.Proofs.YtmaemlebpjnmoaaDoor
