/- The calendar, in plain integers. What needs no program: searches, bytes, sizes, words, digits. Sound of both sides. Values and types as they are read. Like in plain terms: matching a text with steps; two ways to compute it. Like of the program: what its loops compute. Like of the reference: what its loops compute. The law of Like. -/
import Derived.Lib.ValidU
import Derived.Lib.RuneCountTail
import Derived.Test.YtdbfodeghijdlaaDoorGeA
set_option linter.unusedVariables false
set_option linter.unusedSimpArgs false
set_option linter.unnecessarySimpa false
namespace Go.SX.Cal
open Go
set_option linter.unusedVariables false

theorem w64 {x : Int} (h1 : -9223372036854775808 ≤ x) (h2 : x ≤ 9223372036854775807) : IntKind.i64.wrap x = x := by
  simp only [IntKind.wrap, IntKind.bits, IntKind.signed]
  simp only [Bool.true_and, decide_eq_true_eq, ge_iff_le]
  split <;> omega

/-! ### years of an era -/

def S (y : Int) : Int := 365 * y + y / 4 - y / 100
def F (r : Int) : Int := r - r / 1460 + r / 36524
def yr (r : Int) : Int := (r - r / 1460 + r / 36524 - r / 146096) / 365

theorem table : ((List.range 400).all fun y => decide (F (S (y : Int)) / 365 = y ∧ F (S ((y : Int) + 1) - 1) / 365 = y)) = true := by decide +kernel

theorem table_at {y : Int} (h0 : 0 ≤ y) (h1 : y ≤ 399) : F (S y) / 365 = y ∧ F (S (y + 1) - 1) / 365 = y := by
  have := List.all_eq_true.1 table y.toNat (List.mem_range.2 (by omega))
  have h := of_decide_eq_true this
  rw [Int.toNat_of_nonneg h0] at h
  exact h

theorem F_mono {r s : Int} (h : r ≤ s) : F r ≤ F s := by unfold F; omega

theorem yr_bound {r : Int} (h0 : 0 ≤ r) (h1 : r ≤ 146096) : 0 ≤ yr r ∧ yr r ≤ 399 := by unfold yr; omega

theorem yr_eq {r : Int} (h0 : 0 ≤ r) (h1 : r ≤ 146095) : yr r = F r / 365 := by
  unfold yr F
  have : r / 146096 = 0 := by omega
  rw [this, Int.sub_zero]

/-- a year has 366 days -/
def leap (y : Int) : Prop := y % 4 = 0 ∧ (y % 100 ≠ 0 ∨ y % 400 = 0)

instance (y : Int) : Decidable (leap y) := by unfold leap; infer_instance

theorem yr_ok {r : Int} (h0 : 0 ≤ r) (h1 : r ≤ 146096) : S (yr r) ≤ r ∧ r ≤ S (yr r) + 365 ∧ (r = S (yr r) + 365 → leap (yr r + 1)) := by
  obtain ⟨b0, b1⟩ := yr_bound h0 h1
  by_cases hr : r = 146096
  · subst hr; decide +kernel
  have h2 : r ≤ 146095 := by omega
  have e := yr_eq h0 h2
  generalize yr r = y at *
  have lo : S y ≤ r := by
    apply Classical.byContradiction
    intro hn
    have hy : 1 ≤ y := by
      apply Classical.byContradiction
      intro hy
      have : y = 0 := by omega
      subst this
      simp [S] at hn
      omega
    have t := (table_at (y := y - 1) (by omega) (by omega)).2
    rw [show y - 1 + 1 = y by omega] at t
    have := F_mono (show r ≤ S y - 1 by omega)
    have : F r / 365 ≤ y - 1 := by rw [← t]; exact Int.ediv_le_ediv (by decide) this
    omega
  have hi : r < S (y + 1) ∨ y = 399 := by
    by_cases hy : y = 399
    · exact .inr hy
    left
    apply Classical.byContradiction
    intro hn
    have t := (table_at (y := y + 1) (by omega) (by omega)).1
    have := F_mono (show S (y + 1) ≤ r by omega)
    have : y + 1 ≤ F r / 365 := by rw [← t]; exact Int.ediv_le_ediv (by decide) this
    omega
  refine ⟨lo, ?_, fun he => ?_⟩
  · rcases hi with hi | rfl
    · unfold S at *; omega
    · simp [S] at *; omega
  · rcases hi with hi | rfl
    · unfold S at *
      have h4 : (y + 1) / 4 = y / 4 + 1 ∧ (y + 1) / 100 = y / 100 := by omega
      exact ⟨by omega, .inl (by omega)⟩
    · simp [S] at *; omega

/-! ### days -/

def mdays (m : Int) : Int := (153 * m + 2) / 5

/-- days from 1970-01-01 -/
def days (y m d : Int) : Int :=
  if m ≤ 2 then (y - 1) / 400 * 146097 + S ((y - 1) % 400) + mdays (m + 9) + d - 1 - 719468 else y / 400 * 146097 + S (y % 400) + mdays (m - 3) + d - 1 - 719468

def dim (y m : Int) : Int := if m = 2 then (if leap y then 29 else 28) else if m = 4 ∨ m = 6 ∨ m = 9 ∨ m = 11 then 30 else 31

def date (n : Int) : Int × Int × Int :=
  let era := (n + 719468) / 146097
  let r := (n + 719468) % 146097
  let y := yr r
  let k := r - S y
  let m := (5 * k + 2) / 153
  let d := k - mdays m + 1
  if m + 3 > 12 then (era * 400 + y + 1, m + 3 - 12, d) else (era * 400 + y, m + 3, d)

theorem date_ok (n : Int) : days (date n).1 (date n).2.1 (date n).2.2 = n ∧ 1 ≤ (date n).2.1 ∧ (date n).2.1 ≤ 12 ∧ 1 ≤ (date n).2.2 ∧ (date n).2.2 ≤ dim (date n).1 (date n).2.1 := by
  simp only [date]
  have hr0 : 0 ≤ (n + 719468) % 146097 := by omega
  have hr1 : (n + 719468) % 146097 ≤ 146096 := by omega
  have hn : n + 719468 = (n + 719468) / 146097 * 146097 + (n + 719468) % 146097 := by omega
  generalize (n + 719468) % 146097 = r at *
  generalize (n + 719468) / 146097 = era at *
  obtain ⟨b0, b1⟩ := yr_bound hr0 hr1
  obtain ⟨s0, s1, s2⟩ := yr_ok hr0 hr1
  generalize yr r = y at *
  have hk0 : 0 ≤ r - S y := by omega
  have hk1 : r - S y ≤ 365 := by omega
  have hk2 : r - S y = 365 → leap (y + 1) := fun h => s2 (by omega)
  have hrk : r = S y + (r - S y) := by omega
  generalize r - S y = k at *
  subst hrk
  have hm0 : 0 ≤ (5 * k + 2) / 153 := by omega
  have hm1 : (5 * k + 2) / 153 ≤ 11 := by omega
  have hd : 1 ≤ k - mdays ((5 * k + 2) / 153) + 1 := by unfold mdays; omega
  have hd2 : k ≤ mdays ((5 * k + 2) / 153 + 1) - 1 := by unfold mdays; omega
  generalize hm : (5 * k + 2) / 153 = m at *
  by_cases hc : m + 3 > 12
  · simp only [hc, if_true]
    have e1 : (era * 400 + y + 1 - 1) / 400 = era := by omega
    have e2 : (era * 400 + y + 1 - 1) % 400 = y := by omega
    refine ⟨?_, by omega, by omega, hd, ?_⟩
    · unfold days
      rw [if_pos (by omega), e1, e2, show m + 3 - 12 + 9 = m by omega]
      omega
    · unfold dim
      have hcase : m = 10 ∨ m = 11 := by omega
      rcases hcase with rfl | rfl
      · simp [mdays] at *; omega
      · have hL : leap (era * 400 + y + 1) ↔ leap (y + 1) := by unfold leap; omega
        simp only [show (11 : Int) + 3 - 12 = 2 by rfl, if_true]
        by_cases hl : leap (y + 1)
        · rw [if_pos (hL.2 hl)]; simp [mdays] at *; omega
        · rw [if_neg (fun h => hl (hL.1 h))]
          have : k ≠ 365 := fun h => hl (hk2 h)
          simp [mdays] at *; omega
  · simp only [hc, if_false]
    have e1 : (era * 400 + y) / 400 = era := by omega
    have e2 : (era * 400 + y) % 400 = y := by omega
    refine ⟨?_, by omega, by omega, hd, ?_⟩
    · unfold days
      rw [if_neg (by omega), e1, e2, show m + 3 - 3 = m by omega]
      omega
    · unfold dim
      rw [if_neg (by omega)]
      have hcase : m = 0 ∨ m = 1 ∨ m = 2 ∨ m = 3 ∨ m = 4 ∨ m = 5 ∨ m = 6 ∨ m = 7 ∨ m = 8 ∨ m = 9 := by omega
      rcases hcase with rfl | rfl | rfl | rfl | rfl | rfl | rfl | rfl | rfl | rfl <;> simp [mdays] at * <;> omega

/-- the first of March of a year -/
def E (y : Int) : Int := y / 400 * 146097 + S (y % 400) - 719468

theorem E_leap {y : Int} (h : leap (y + 1)) : E (y + 1) = E y + 366 := by
  unfold E S; unfold leap at h
  by_cases h4 : (y + 1) % 400 = 0
  · have a1 : (y + 1) / 400 = y / 400 + 1 := by omega
    have a2 : y % 400 = 399 := by omega
    rw [a1, h4, a2]; omega
  · have a1 : (y + 1) / 400 = y / 400 := by omega
    have a2 : (y + 1) % 400 = y % 400 + 1 := by omega
    rw [a1, a2]
    have hq : 0 ≤ y % 400 ∧ y % 400 ≤ 398 := by omega
    have h5 : (y % 400 + 1) % 4 = 0 := by omega
    have h6 : (y % 400 + 1) % 100 ≠ 0 := by omega
    generalize y % 400 = q at *
    have : (q + 1) / 4 = q / 4 + 1 := by omega
    have : (q + 1) / 100 = q / 100 := by omega
    omega

theorem E_not {y : Int} (h : ¬ leap (y + 1)) : E (y + 1) = E y + 365 := by
  unfold E S; unfold leap at h
  have h4 : (y + 1) % 400 ≠ 0 := by omega
  have a1 : (y + 1) / 400 = y / 400 := by omega
  have a2 : (y + 1) % 400 = y % 400 + 1 := by omega
  rw [a1, a2]
  have hq : 0 ≤ y % 400 ∧ y % 400 ≤ 398 := by omega
  have h5 : (y % 400 + 1) % 4 ≠ 0 ∨ (y % 400 + 1) % 100 = 0 := by omega
  generalize y % 400 = q at *
  by_cases h7 : (q + 1) % 100 = 0
  · have : (q + 1) / 4 = q / 4 + 1 := by omega
    have : (q + 1) / 100 = q / 100 + 1 := by omega
    omega
  · have : (q + 1) / 4 = q / 4 := by omega
    have : (q + 1) / 100 = q / 100 := by omega
    omega

theorem days_E (y m d : Int) : days y m d = if m ≤ 2 then E (y - 1) + mdays (m + 9) + d - 1 else E y + mdays (m - 3) + d - 1 := by
  unfold days E; split <;> omega

theorem E_step (y : Int) : (leap (y + 1) ∧ E (y + 1) = E y + 366) ∨ (¬ leap (y + 1) ∧ E (y + 1) = E y + 365) := by
  by_cases h : leap (y + 1)
  · exact .inl ⟨h, E_leap h⟩
  · exact .inr ⟨h, E_not h⟩

/-- the first of January -/
theorem days_jan (y : Int) : days y 1 1 = E (y - 1) + 306 := by
  rw [days_E, if_pos (by decide)]; simp [mdays]

/-- a day lies in its month, and in its year -/
theorem days_in (y m d : Int) (h0 : 1 ≤ m) (h1 : m ≤ 12) (h2 : 1 ≤ d) (h3 : d ≤ dim y m) : days y 1 1 ≤ days y m 1 ∧ days y m d = days y m 1 + d - 1 ∧ days y m d < days (y + 1) 1 1 := by
  rw [days_jan, days_jan, days_E, days_E, show y + 1 - 1 = y by omega]
  have hE := E_step (y - 1)
  rw [show y - 1 + 1 = y by omega] at hE
  unfold dim at h3
  have hc : m = 1 ∨ m = 2 ∨ m = 3 ∨ m = 4 ∨ m = 5 ∨ m = 6 ∨ m = 7 ∨ m = 8 ∨ m = 9 ∨ m = 10 ∨ m = 11 ∨ m = 12 := by omega
  rcases hE with ⟨hl, hE⟩ | ⟨hl, hE⟩ <;> simp only [hl, if_true, if_false] at h3 <;> rcases hc with rfl | rfl | rfl | rfl | rfl | rfl | rfl | rfl | rfl | rfl | rfl | rfl <;> simp [mdays] at * <;> omega

/-- the years follow each other -/
theorem days_year (y : Int) : days y 1 1 + 365 ≤ days (y + 1) 1 1 ∧ days (y + 1) 1 1 ≤ days y 1 1 + 366 := by
  rw [days_jan, days_jan, show y + 1 - 1 = y by omega]
  have hE := E_step (y - 1)
  rw [show y - 1 + 1 = y by omega] at hE
  omega

theorem days_mono_nat (y : Int) (k : Nat) : days y 1 1 + 365 * k ≤ days (y + k) 1 1 := by
  induction k with
  | zero => simp
  | succ k ih =>
    have := (days_year (y + k)).1
    rw [show y + ((k + 1 : Nat) : Int) = y + k + 1 by omega]
    omega

theorem days_mono {y z : Int} (h : y ≤ z) : days y 1 1 + 365 * (z - y) ≤ days z 1 1 := by
  have := days_mono_nat y (z - y).toNat
  rw [show y + ((z - y).toNat : Int) = z by omega] at this
  omega

/-- the year of a day -/
theorem year_iff {n y : Int} : (date n).1 = y ↔ days y 1 1 ≤ n ∧ n < days (y + 1) 1 1 := by
  obtain ⟨h1, h2, h3, h4, h5⟩ := date_ok n
  obtain ⟨a1, a2, a3⟩ := days_in _ _ _ h2 h3 h4 h5
  rw [h1] at a2 a3
  constructor
  · rintro rfl
    exact ⟨by omega, a3⟩
  · rintro ⟨b1, b2⟩
    apply Classical.byContradiction
    intro hn
    rcases Int.lt_or_gt_of_ne hn with hlt | hgt
    · have := days_mono (show (date n).1 + 1 ≤ y by omega)
      omega
    · have := days_mono (show y + 1 ≤ (date n).1 by omega)
      omega

end Go.SX.Cal
namespace Go.SX.Cal
open Go Go.SX Go.Lib
set_option linter.unusedVariables false
set_option linter.unusedSimpArgs false


theorem ift_true {β : Type} (x y : Option β) : ift true x y = x := rfl
theorem ift_false {β : Type} (x y : Option β) : ift false x y = y := rfl
theorem ift_ite {β : Type} (b : Bool) (x y : Option β) : ift b x y = if b = true then x else y := by cases b <;> rfl
theorem big_val : BIG = 1152921504606846976 := rfl

/-- the first index from i on, below n, at which P holds -/
def first (P : Nat → Bool) (i n : Nat) : Option Nat := (List.range' i (n - i)).find? P

theorem first_step {P : Nat → Bool} {i n : Nat} (h : i < n) : first P i n = if P i = true then some i else first P (i + 1) n := by
  unfold first
  rw [show n - i = (n - (i + 1)) + 1 by omega, List.range'_succ, List.find?_cons]
  cases hp : P i <;> simp [hp]

theorem first_end {P : Nat → Bool} {n : Nat} : first P n n = none := by simp [first]

theorem first_none {P : Nat → Bool} {i n : Nat} : first P i n = none ↔ ∀ j, i ≤ j → j < n → P j = false := by
  unfold first
  rw [List.find?_eq_none]
  constructor
  · intro h j h1 h2
    have := h j (by rw [List.mem_range'_1]; omega)
    simpa using this
  · intro h j hj
    rw [List.mem_range'_1] at hj
    have := h j (by omega) (by omega)
    simp [this]

theorem search {β : Type} {f : Nat → Nat → Option β} {n : Nat} {P : Nat → Bool} {A : Nat → Option β} {B : Option β} (hstep : ∀ k i, i < n → f (k + 1) i = if P i = true then A i else f k (i + 1)) (hend : ∀ k, f (k + 1) n = B) :
    ∀ k i, i ≤ n → n - i < k → f k i = (first P i n).elim B A := by
  intro k
  induction k with
  | zero => intro i _ h; omega
  | succ k ih =>
    intro i hi hk
    by_cases h : i = n
    · subst h
      rw [hend, first_end]; rfl
    · rw [hstep k i (by omega), first_step (by omega)]
      by_cases hp : P i = true
      · simp [hp]
      · simp only [hp, if_false]
        exact ih (i + 1) (by omega) (by omega)

def byt (s : ByteArray) (i : Nat) : Nat := (s.data.toList.getD i 0).toNat

theorem get_byt (s : ByteArray) (i : Nat) (h : i < s.size) : (s.get! i).toNat = byt s i := by
  unfold byt
  have h' : i < s.data.size := h
  have : s.get! i = s.data.toList.getD i 0 := by
    simp only [ByteArray.get!, List.getD, Array.getElem?_toList]
    rw [getElem!_pos s.data i h', Array.getElem?_eq_getElem h']; rfl
  rw [this]

theorem byt_lt (s : ByteArray) (i : Nat) : byt s i < 256 := by
  unfold byt
  exact UInt8.toNat_lt _



theorem decode_lo (s : ByteArray) (i : Nat) (h : i < s.size) (hb : byt s i < 128) : Utf8.decode s i = (byt s i, 1) := by
  have e := get_byt s i h
  unfold Utf8.decode
  simp [e, hb]

theorem decode_hi (s : ByteArray) (i : Nat) (h : i < s.size) (hb : ¬ byt s i < 128) : 128 ≤ (Utf8.decode s i).1 := by
  have e := get_byt s i h
  unfold Utf8.decode
  simp only [Nat.add_zero, e, if_neg hb, Utf8.runeError]
  repeat' split
  all_goals simp_all
  all_goals omega

theorem size_zero (s : ByteArray) : (s.toList == (ByteArray.mk #[]).toList) = decide (s.size = 0) := by
  rw [ByteArray.toList_eq, ByteArray.toList_eq, Bool.eq_iff_iff]
  show (s.data.toList == []) = true ↔ decide (s.data.size = 0) = true
  rw [← Array.length_toList]
  cases s.data.toList <;> simp

mutual
def sizeT : GType → Nat
  | ⟨_, _, fs⟩ => sizeF fs + 1
def sizeF : List (FieldP GType) → Nat
  | [] => 0
  | f :: l => sizeFd f + sizeF l
def sizeFd : FieldP GType → Nat
  | ⟨_, n, _, t⟩ => n.size + sizeT t + 1
end

theorem sizeF_mem : ∀ {l : List GField} {x : GField}, x ∈ l → sizeFd x ≤ sizeF l
  | [], _, h => by cases h
  | y :: l, x, h => by
    simp only [sizeF]
    rcases List.mem_cons.1 h with rfl | h
    · omega
    · have := sizeF_mem h; omega

theorem sizeFd_eq : ∀ x : GField, sizeFd x = x.name.size + sizeT x.type + 1
  | ⟨_, _, _, _⟩ => by simp only [sizeFd]

theorem sizeT_eq : ∀ x : GType, sizeT x = sizeF x.fields + 1
  | ⟨_, _, _⟩ => by simp only [sizeT]

theorem sizeF_len : ∀ l : List GField, l.length ≤ sizeF l
  | [] => by simp [sizeF]
  | x :: l => by
    have := sizeF_len l
    have := sizeFd_eq x
    simp only [sizeF, List.length_cons]; omega

theorem wrap_succ {i n : Nat} (h : i < n) (hn : n < 1000000000) : IntKind.i64.wrap ((i : Int) + 1) = ((i + 1 : Nat) : Int) := by rw [w64 (by omega) (by omega)]; omega

theorem at_nat {α : Type} {xs : List α} {i : Nat} (h : i < xs.length) : at? xs (i : Int) = some xs[i] := by unfold at?; simp [h]

theorem dec_lt {i n : Nat} (h : i < n) : decide ((i : Int) < (n : Int)) = true := by simp [h]



mutual
def sizeV : GValue → Nat
  | ⟨_, _, _, s, it⟩ => s.size + sizeL it + 1
def sizeL : List GValue → Nat
  | [] => 0
  | x :: l => sizeV x + sizeL l
end

theorem sizeV_eq : ∀ v : GValue, sizeV v = v.s.size + sizeL v.items + 1
  | ⟨_, _, _, _, _⟩ => by simp only [sizeV]

theorem sizeL_mem : ∀ {l : List GValue} {x : GValue}, x ∈ l → sizeV x ≤ sizeL l
  | [], _, h => by cases h
  | y :: l, x, h => by
    simp only [sizeL]
    rcases List.mem_cons.1 h with rfl | h
    · omega
    · have := sizeL_mem h; omega

theorem sizeV_pos : ∀ v : GValue, 1 ≤ sizeV v
  | ⟨_, _, _, _, _⟩ => by simp only [sizeV]; omega

theorem sizeL_len : ∀ l : List GValue, l.length ≤ sizeL l
  | [] => by simp [sizeL]
  | x :: l => by
    have := sizeL_len l
    have := sizeV_pos x
    simp only [sizeL, List.length_cons]; omega

theorem ift_and (b x : Bool) : ift b (some x) (some false) = some (b && x) := by cases b <;> rfl
theorem ift_or (b x : Bool) : ift b (some true) (some x) = some (b || x) := by cases b <;> rfl
theorem bnd_some' {α β : Type} (a : α) (f : α → Option β) : bnd (some a) f = f a := rfl

theorem first_skip {P : Nat → Bool} {n : Nat} : ∀ (d i : Nat), i + d ≤ n → (∀ j, i ≤ j → j < i + d → P j = false) → first P i n = first P (i + d) n
  | 0, i, _, _ => rfl
  | d + 1, i, h, hP => by
    rw [first_step (by omega), hP i (by omega) (by omega)]
    simp only [Bool.false_eq_true, if_false]
    rw [first_skip d (i + 1) (by omega) (fun j h1 h2 => hP j (by omega) (by omega))]
    congr 1; omega

theorem decode_skip (s : ByteArray) (i : Nat) (h : i < s.size) (hb : ¬ byt s i < 128) :
    1 ≤ (Utf8.decode s i).2 ∧ i + (Utf8.decode s i).2 ≤ s.size ∧ ∀ j, i ≤ j → j < i + (Utf8.decode s i).2 → 128 ≤ byt s j := by
  have e := get_byt s i h
  have one : ∀ j, i ≤ j → j < i + 1 → 128 ≤ byt s j := fun j h1 h2 => by
    have : j = i := by omega
    subst this; omega
  have ct : ∀ k, (decide (i + k < s.size) && (s.get! (i + k)).toNat / 64 == 2) = true → i + k < s.size ∧ 128 ≤ byt s (i + k) := by
    intro k hk
    simp only [Bool.and_eq_true, decide_eq_true_eq, beq_iff_eq] at hk
    rw [get_byt s _ hk.1] at hk
    exact ⟨hk.1, by omega⟩
  unfold Utf8.decode
  simp only [Nat.add_zero, e, if_neg hb]
  split
  · rename_i h1
    simp only [Bool.and_eq_true] at h1
    obtain ⟨l1, b1⟩ := ct 1 (by simpa using h1.2)
    split
    · refine ⟨by simp, by simp only; omega, fun j h2 h3 => ?_⟩
      simp only at h3
      by_cases hj : j = i
      · subst hj; omega
      · have : j = i + 1 := by omega
        subst this; exact b1
    · exact ⟨by simp, by simp only; omega, one⟩
  · split
    · rename_i h1
      simp only [Bool.and_eq_true] at h1
      obtain ⟨l1, b1⟩ := ct 1 (by simpa using h1.1.2)
      obtain ⟨l2, b2⟩ := ct 2 (by simpa using h1.2)
      split
      · refine ⟨by simp, by simp only; omega, fun j h2 h3 => ?_⟩
        simp only at h3
        by_cases hj : j = i
        · subst hj; omega
        · by_cases hj : j = i + 1
          · subst hj; exact b1
          · have : j = i + 2 := by omega
            subst this; exact b2
      · exact ⟨by simp, by simp only; omega, one⟩
    · split
      · rename_i h1
        simp only [Bool.and_eq_true] at h1
        obtain ⟨l1, b1⟩ := ct 1 (by simpa using h1.1.1.2)
        obtain ⟨l2, b2⟩ := ct 2 (by simpa using h1.1.2)
        obtain ⟨l3, b3⟩ := ct 3 (by simpa using h1.2)
        split
        · refine ⟨by simp, by simp only; omega, fun j h2 h3 => ?_⟩
          simp only at h3
          by_cases hj : j = i
          · subst hj; omega
          · by_cases hj : j = i + 1
            · subst hj; exact b1
            · by_cases hj : j = i + 2
              · subst hj; exact b2
              · have : j = i + 3 := by omega
                subst this; exact b3
        · exact ⟨by simp, by simp only; omega, one⟩
      · exact ⟨by simp, by simp only; omega, one⟩

/-- a byte that is a control character -/
def ctl (s : ByteArray) (i : Nat) : Bool := decide (byt s i < 32) || byt s i == 127



theorem wu {x : Int} : IntKind.u64.wrap x = x % 18446744073709551616 := by
  simp only [IntKind.wrap, IntKind.bits, IntKind.signed]
  simp

/-- words -/
structure W4 (w : GWide) : Prop where
  a0 : 0 ≤ w.size.1
  a1 : w.size.1 < 18446744073709551616
  b0 : 0 ≤ w.size.2.1
  b1 : w.size.2.1 < 18446744073709551616
  c0 : 0 ≤ w.size.2.2.1
  c1 : w.size.2.2.1 < 18446744073709551616
  d0 : 0 ≤ w.size.2.2.2
  d1 : w.size.2.2.2 < 18446744073709551616

def val (w : GWide) : Int := w.size.1 + w.size.2.1 * 18446744073709551616 + w.size.2.2.1 * 340282366920938463463374607431768211456 + w.size.2.2.2 * 6277101735386680763835789423207666416102355444464034512896

theorem mask32 {x : Int} (h0 : 0 ≤ x) (h1 : x < 18446744073709551616) : ((BitVec.ofInt (IntKind.u64).bits x &&& BitVec.ofInt (IntKind.u64).bits (4294967295 : Int)).toNat : Int) = x % 4294967296 := by
  have e : (BitVec.ofInt 64 x).toNat = x.toNat := by
    rw [BitVec.toNat_ofInt]
    have : x % ((2 ^ 64 : Nat) : Int) = x := by omega
    rw [this]
  have hand : (BitVec.ofInt 64 x &&& BitVec.ofInt 64 (4294967295 : Int)).toNat = x.toNat % 4294967296 := by
    rw [BitVec.toNat_and, e]
    have : (BitVec.ofInt 64 (4294967295 : Int)).toNat = 2 ^ 32 - 1 := by decide
    rw [this, Nat.and_two_pow_sub_one_eq_mod]
  show ((BitVec.ofInt 64 x &&& BitVec.ofInt 64 (4294967295 : Int)).toNat : Int) = _
  rw [hand]
  omega

theorem sh32 (x : Int) : x.fdiv (2 ^ (min (32 : Int).toNat (IntKind.u64).bits)) = x / 4294967296 := by
  have : (2 : Int) ^ (min (32 : Int).toNat (IntKind.u64).bits) = 4294967296 := by decide
  rw [this, Int.fdiv_eq_ediv_of_nonneg _ (by decide)]

theorem m64 {x : Int} (h0 : 0 ≤ x) (h1 : x < 18446744073709551616) : x % 18446744073709551616 = x := Int.emod_eq_of_lt h0 h1

theorem prod_bound {a b : Int} (a0 : 0 ≤ a) (a1 : a < 4294967296) (b0 : 0 ≤ b) (b1 : b < 4294967296) : 0 ≤ a * b ∧ a * b ≤ 18446744065119617025 := by
  refine ⟨Int.mul_nonneg a0 b0, ?_⟩
  have h1 : a * b ≤ 4294967295 * b := Int.mul_le_mul_of_nonneg_right (by omega) b0
  omega



/-- one word of a product, with what is carried -/
theorem word_step {x n c : Int} (h0 : 0 ≤ x) (h1 : x < 18446744073709551616) (n0 : 0 ≤ n) (n1 : n < 18446744073709551616) (c0 : 0 ≤ c) (c1 : c < 18446744073709551616) :
    (x * n / 18446744073709551616 + (x * n % 18446744073709551616 + c) / 18446744073709551616) % 18446744073709551616 = (x * n + c) / 18446744073709551616 ∧ (x * n % 18446744073709551616 + c) % 18446744073709551616 = (x * n + c) % 18446744073709551616 ∧ 0 ≤ (x * n + c) / 18446744073709551616 ∧ (x * n + c) / 18446744073709551616 < 18446744073709551616 := by
  have hp : 0 ≤ x * n := Int.mul_nonneg h0 n0
  have hq : x * n ≤ 18446744073709551615 * n := Int.mul_le_mul_of_nonneg_right (by omega) n0
  have hq2 : (18446744073709551615 : Int) * n ≤ 18446744073709551615 * 18446744073709551615 := Int.mul_le_mul_of_nonneg_left (by omega) (by decide)
  have hb : x * n ≤ 340282366920938463426481119284349108225 := by
    refine Int.le_trans hq (Int.le_trans hq2 (by decide))
  generalize x * n = p at *
  omega

/-- ten to a power, by steps -/
def p10 : Nat → Int
  | 0 => 1
  | k + 1 => p10 k * 10

theorem p10_pos : ∀ k, 1 ≤ p10 k
  | 0 => by decide
  | k + 1 => by have := p10_pos k; simp only [p10]; omega



def c3 (a b : Int) : Int := if a < b then -1 else if b < a then 1 else 0

def sv (w : GWide) : Int := if w.neg = true then -val w else val w

def zeroW (w : GWide) : Prop := w.size.1 = 0 ∧ w.size.2.1 = 0 ∧ w.size.2.2.1 = 0 ∧ w.size.2.2.2 = 0

theorem bool_ne (n m : Bool) (h : ¬ n = m) : (!(n == m)) = true ∧ (!m) = n := by revert h; cases n <;> cases m <;> simp

/-- the number of digits, the lowest one first -/
def dval : List Int → Int
  | [] => 0
  | d :: l => d + 10 * dval l

def digs (l : List Int) : Prop := ∀ d ∈ l, 0 ≤ d ∧ d ≤ 9

/-- no zero at the top -/
def top (l : List Int) : Prop := ∀ d, l.getLast? = some d → d ≠ 0

theorem dval_nonneg : ∀ {l : List Int}, digs l → 0 ≤ dval l
  | [], _ => by simp [dval]
  | d :: l, h => by
    have h1 := h d (by simp)
    have h2 := dval_nonneg (l := l) (fun x hx => h x (by simp [hx]))
    simp only [dval]; omega

theorem p10n : ∀ n, 0 < p10 n := fun n => by have := p10_pos n; omega

theorem dval_lt : ∀ {l : List Int}, digs l → dval l < p10 l.length
  | [], _ => by simp [dval, p10]
  | d :: l, h => by
    have h1 := h d (by simp)
    have h2 := dval_lt (l := l) (fun x hx => h x (by simp [hx]))
    simp only [dval, List.length_cons, p10]; omega

theorem dval_ge : ∀ {l : List Int}, digs l → top l → l ≠ [] → p10 (l.length - 1) ≤ dval l
  | [], _, _, h => absurd rfl h
  | [d], h, ht, _ => by
    have h1 := h d (by simp)
    have h2 := ht d (by simp)
    simp [dval, p10]; omega
  | d :: e :: l, h, ht, _ => by
    have h1 := h d (by simp)
    have h2 := dval_ge (l := e :: l) (fun x hx => h x (by simp [hx])) (fun x hx => ht x (by simpa using hx)) (by simp)
    simp only [List.length_cons] at h2 ⊢
    rw [show l.length + 1 + 1 - 1 = (l.length + 1 - 1) + 1 by omega]
    simp only [p10]
    rw [dval]
    omega

theorem p10_mono {m n : Nat} (h : m ≤ n) : p10 m ≤ p10 n := by
  induction n with
  | zero =>
      have : m = 0 := by omega
      subst this; exact Int.le_refl _
  | succ n ih =>
    by_cases e : m = n + 1
    · subst e; exact Int.le_refl _
    · have h1 := ih (by omega)
      have h2 := p10n n
      simp only [p10]; omega

theorem dval_append : ∀ (l m : List Int), dval (l ++ m) = dval l + p10 l.length * dval m
  | [], m => by simp [dval, p10]
  | d :: l, m => by
    simp only [List.cons_append, dval, dval_append l m, List.length_cons, p10]
    rw [Int.mul_add, ← Int.mul_assoc, Int.mul_comm 10 (p10 l.length)]; omega

theorem dval_zeros (k : Nat) : dval (List.replicate k 0) = 0 := by
  induction k with
  | zero => rfl
  | succ k ih => simp [List.replicate_succ, dval, ih]

end Go.SX.Cal
namespace Go.Proofs.YtdbfodeghijdlaaDoor
open Go Go.SX Go.SX.Cal Go.Lib
set_option linter.unusedVariables false
set_option linter.unusedSimpArgs false


theorem vtext_loop (s : ByteArray) : ∀ k i, i ≤ s.size → s.size - i < k → value_text_l1 s k i = some (first (ctl s) i s.size).isNone := by
  intro k
  induction k with
  | zero => intro i _ h; omega
  | succ k ih =>
    intro i hi hk
    rw [value_text_l1]
    by_cases h : i = s.size
    · subst h
      rw [first_end]
      simp only [Nat.lt_irrefl, decide_false, ift_false, value_text_j3]
      rfl
    · have hlt : i < s.size := by omega
      simp only [hlt, decide_true, ift_true, value_text_j2, ift_ite]
      by_cases hb : byt s i < 128
      · rw [decode_lo s i hlt hb, first_step hlt]
        by_cases h1 : byt s i < 32
        · have : ctl s i = true := by simp [ctl, h1]
          simp [this, show ((byt s i : Nat) : Int) < 32 by omega]
        · have e1 : ¬ ((byt s i : Nat) : Int) < 32 := by omega
          by_cases h2 : byt s i = 127
          · have : ctl s i = true := by simp [ctl, h2]
            simp [this, h2]
          · have : ctl s i = false := by simp [ctl, h1, h2]
            have e2 : ¬ ((byt s i : Nat) : Int) = 127 := by omega
            simp only [this, Int.ofNat_eq_natCast, e1, decide_false, Bool.false_eq_true, if_false, beq_iff_eq, e2]
            exact ih (i + 1) (by omega) (by omega)
      · have h1 := decode_hi s i hlt hb
        obtain ⟨h2, h3, h4⟩ := decode_skip s i hlt hb
        have e1 : ¬ (((Utf8.decode s i).1 : Nat) : Int) < 32 := by omega
        have e2 : ¬ (((Utf8.decode s i).1 : Nat) : Int) = 127 := by omega
        simp only [Int.ofNat_eq_natCast, e1, decide_false, Bool.false_eq_true, if_false, beq_iff_eq, e2]
        rw [ih _ h3 (by omega), first_skip _ i h3 (fun j a b => by
          have := h4 j a b
          simp only [ctl, Bool.or_eq_false_iff, decide_eq_false_iff_not, beq_eq_false_iff_ne]
          omega)]
        simp

theorem rchar_loop (s : ByteArray) (hs : s.size < 1000000000) : ∀ k i, i ≤ s.size → s.size - i < k → ref1_characters_l1 s k (i : Int) = some (first (ctl s) i s.size).isNone := by
  intro k
  induction k with
  | zero => intro i _ h; omega
  | succ k ih =>
    intro i hi hk
    rw [ref1_characters_l1]
    by_cases h : i = s.size
    · subst h
      rw [first_end]
      simp only [Int.lt_irrefl, decide_false, ift_false, ref1_characters_j3]
      rfl
    · have hlt : i < s.size := by omega
      have g : (0 : Int) ≤ (i : Int) ∧ (i : Int) < (s.size : Int) := ⟨by omega, by omega⟩
      have e : ((s.data.toList.getD (i : Int).toNat 0).toNat : Int) = (byt s i : Int) := by simp [byt]
      simp only [dec_lt hlt, ift_true, grd, if_pos g, bnd_some', ref1_characters_j2, ift_ite, e]
      rw [first_step hlt, wrap_succ hlt hs]
      by_cases h1 : byt s i < 32
      · have : ctl s i = true := by simp [ctl, h1]
        simp [this, show ((byt s i : Nat) : Int) < 32 by omega]
      · have e1 : ¬ ((byt s i : Nat) : Int) < 32 := by omega
        by_cases h2 : byt s i = 127
        · have : ctl s i = true := by simp [ctl, h2]
          simp [this, h2]
        · have : ctl s i = false := by simp [ctl, h1, h2]
          have e2 : ¬ ((byt s i : Nat) : Int) = 127 := by omega
          simp only [this, e1, decide_false, Bool.false_eq_true, if_false, beq_iff_eq, e2]
          exact ih (i + 1) (by omega) (by omega)

/-- a text of a Text -/
def textOk (s : ByteArray) : Bool := decide (s.size ≤ 256) && (validD s.data.toList && (first (ctl s) 0 s.size).isNone)

theorem validS (s : ByteArray) (hs : s.size < 1000000000) : utf8_ValidString s = some (validD s.data.toList) := by
  unfold utf8_ValidString grd
  rw [if_pos (by omega)]

theorem vText (s : ByteArray) (hs : s.size < 1000000000) : value_text s = some (textOk s) := by
  unfold value_text value_text_j1 textOk
  rw [validS s hs, vtext_loop s BIG 0 (by omega) (by rw [big_val]; omega)]
  by_cases h : s.size ≤ 256
  · have : ¬ (256 : Int) < (s.size : Int) := by omega
    simp only [this, h, decide_false, decide_true, ift_false, bnd_some']
    cases validD s.data.toList <;> rfl
  · have : (256 : Int) < (s.size : Int) := by omega
    simp only [this, h, decide_false, decide_true, ift_true]
    rfl

theorem rChars (s : ByteArray) (hs : s.size < 1000000000) : ref1_characters s = some (textOk s) := by
  have := rchar_loop s hs BIG 0 (by omega) (by rw [big_val]; omega)
  unfold ref1_characters ref1_characters_j1 textOk
  rw [validS s hs, show (0 : Int) = ((0 : Nat) : Int) from rfl, this]
  by_cases h : s.size ≤ 256
  · have e : ¬ (256 : Int) < (s.size : Int) := by omega
    simp only [e, h, decide_false, decide_true, bnd_some']
    cases validD s.data.toList <;> rfl
  · have e : (256 : Int) < (s.size : Int) := by omega
    simp only [e, h, decide_false, decide_true, bnd_some']
    cases validD s.data.toList <;> rfl

theorem vWithin (a b c : Int) : value_within a b c = some (decide (b ≤ a) && decide (a ≤ c)) := by
  unfold value_within value_within_j1; exact ift_and _ _
theorem rWithin (a b c : Int) : ref1_within a b c = some (decide (b ≤ a) && decide (a ≤ c)) := by
  unfold ref1_within ref1_within_j1; exact ift_and _ _

/-- a value that is sound but for its items -/
def plainOk (v : GValue) : Bool :=
  let bare := v.n == 0 && v.scale == 0
  let noS := decide (v.s.size = 0)
  let noI := ((v.items.length : Int) == 0)
  if v.kind = 0 then bare && (noS && noI)
  else if v.kind = 1 then (decide (0 ≤ v.n) && decide (v.n ≤ 1)) && (v.scale == 0 && (noS && noI))
  else if v.kind = 2 then (decide (-999999999999999999 ≤ v.n) && decide (v.n ≤ 999999999999999999)) && (v.scale == 0 && (noS && noI))
  else if v.kind = 3 then (decide (-999999999999999999 ≤ v.n) && decide (v.n ≤ 999999999999999999)) && ((decide (0 ≤ v.scale) && decide (v.scale ≤ 12)) && (noS && noI))
  else if v.kind = 4 then bare && (textOk v.s && noI)
  else if v.kind = 5 then (decide (-62135596800 ≤ v.n) && decide (v.n ≤ 253402300799)) && (v.scale == 0 && (noS && noI))
  else if v.kind = 6 then bare && (noS && decide ((v.items.length : Int) ≤ 64))
  else if v.kind = 7 then bare && (noS && decide ((0 : Int) < (v.items.length : Int)))
  else false

theorem vPlain (v : GValue) (hs : v.s.size < 1000000000) : value_plain v = some (plainOk v) := by
  have j : ∀ x, value_plain_j1 v x = some (if v.kind = 0 then x && (decide (v.s.size = 0) && ((v.items.length : Int) == 0))
      else if v.kind = 1 then (decide (0 ≤ v.n) && decide (v.n ≤ 1)) && (v.scale == 0 && (decide (v.s.size = 0) && ((v.items.length : Int) == 0)))
      else if v.kind = 2 then (decide (-999999999999999999 ≤ v.n) && decide (v.n ≤ 999999999999999999)) && (v.scale == 0 && (decide (v.s.size = 0) && ((v.items.length : Int) == 0)))
      else if v.kind = 3 then (decide (-999999999999999999 ≤ v.n) && decide (v.n ≤ 999999999999999999)) && ((decide (0 ≤ v.scale) && decide (v.scale ≤ 12)) && (decide (v.s.size = 0) && ((v.items.length : Int) == 0)))
      else if v.kind = 4 then x && (textOk v.s && ((v.items.length : Int) == 0))
      else if v.kind = 5 then (decide (-62135596800 ≤ v.n) && decide (v.n ≤ 253402300799)) && (v.scale == 0 && (decide (v.s.size = 0) && ((v.items.length : Int) == 0)))
      else if v.kind = 6 then x && (decide (v.s.size = 0) && decide ((v.items.length : Int) ≤ 64))
      else if v.kind = 7 then x && (decide (v.s.size = 0) && decide ((0 : Int) < (v.items.length : Int)))
      else false) := by
    intro x
    unfold value_plain_j1 value_plain_j2 value_plain_j3 value_plain_j4 value_plain_j5 value_plain_j6 value_plain_j7 value_plain_j8 value_plain_j9
    simp only [vWithin, vText v.s hs, bnd_some', ift_and, size_zero]
    simp only [ift_ite, beq_iff_eq]
    repeat' split
    all_goals (first | rfl | simp_all)
  unfold value_plain
  rw [j, j]
  unfold plainOk
  cases v.n == 0
  · simp only [ift_false, Bool.false_and]
  · simp only [ift_true, Bool.true_and]

theorem rAlone (v : GValue) (hs : v.s.size < 1000000000) : ref1_alone v = some (plainOk v) := by
  have j : ∀ x, ref1_alone_j1 v x = some (if v.kind = 0 then x && (v.n == 0 && v.scale == 0)
      else if v.kind = 1 then x && ((decide (0 ≤ v.n) && decide (v.n ≤ 1)) && v.scale == 0)
      else if v.kind = 2 then x && ((decide (-999999999999999999 ≤ v.n) && decide (v.n ≤ 999999999999999999)) && v.scale == 0)
      else if v.kind = 3 then x && ((decide (-999999999999999999 ≤ v.n) && decide (v.n ≤ 999999999999999999)) && (decide (0 ≤ v.scale) && decide (v.scale ≤ 12)))
      else if v.kind = 4 then ((v.items.length : Int) == 0) && (v.n == 0 && (v.scale == 0 && textOk v.s))
      else if v.kind = 5 then x && ((decide (-62135596800 ≤ v.n) && decide (v.n ≤ 253402300799)) && v.scale == 0)
      else if v.kind = 6 then decide (v.s.size = 0) && (v.n == 0 && (v.scale == 0 && decide ((v.items.length : Int) ≤ 64)))
      else if v.kind = 7 then decide (v.s.size = 0) && (v.n == 0 && (v.scale == 0 && decide ((0 : Int) < (v.items.length : Int))))
      else false) := by
    intro x
    unfold ref1_alone_j1 ref1_alone_j2 ref1_alone_j3 ref1_alone_j4 ref1_alone_j5 ref1_alone_j6 ref1_alone_j7 ref1_alone_j8 ref1_alone_j9
    simp only [rWithin, rChars v.s hs, bnd_some', ift_and, size_zero]
    simp only [ift_ite, beq_iff_eq]
    repeat' split
    all_goals (first | rfl | simp_all)
  unfold ref1_alone
  rw [j, j, size_zero]
  unfold plainOk
  generalize decide (v.s.size = 0) = a
  generalize ((v.items.length : Int) == 0) = b
  generalize textOk v.s = t
  generalize (v.n == 0) = c
  generalize (v.scale == 0) = d
  generalize (decide (0 ≤ v.n) && decide (v.n ≤ 1)) = e1
  generalize (decide (-999999999999999999 ≤ v.n) && decide (v.n ≤ 999999999999999999)) = e2
  generalize (decide (0 ≤ v.scale) && decide (v.scale ≤ 12)) = e3
  generalize (decide (-62135596800 ≤ v.n) && decide (v.n ≤ 253402300799)) = e4
  generalize decide ((v.items.length : Int) ≤ 64) = e5
  generalize decide ((0 : Int) < (v.items.length : Int)) = e6
  cases a <;> simp only [ift_false, ift_true] <;> congr 1 <;> repeat' split
  all_goals (first | rfl | (cases b <;> cases c <;> cases d <;> simp <;> done) | (simp [Bool.and_comm, Bool.and_assoc, Bool.and_left_comm]))

/-- items one after the other, as long as they are sound -/
def soundL (f : GValue → Int → Bool × Int) : List GValue → Int → Bool × Int
  | [], z => (true, z)
  | v :: l, z => if (f v z).1 = true then soundL f l (f v z).2 else (false, (f v z).2)

def cnt (v : GValue) (z : Int) : Int := if v.kind = 0 then z else z + 1

/-- d: how many levels are left -/
def soundD : Nat → GValue → Int → Bool × Int
  | 0, v, z => (false, cnt v z)
  | d + 1, v, z => if 256 < cnt v z ∨ plainOk v = false then (false, cnt v z) else soundL (soundD d) v.items (cnt v z)

def soundB (v : GValue) : Bool := (soundD 4 v 0).1

theorem soundL_le {f : GValue → Int → Bool × Int} : ∀ {l : List GValue} {z : Int}, (∀ v ∈ l, ∀ z, 0 ≤ z → z ≤ 256 → 0 ≤ (f v z).2 ∧ (f v z).2 ≤ 257 ∧ ((f v z).1 = true → (f v z).2 ≤ 256)) → 0 ≤ z → z ≤ 256 →
    0 ≤ (soundL f l z).2 ∧ (soundL f l z).2 ≤ 257 ∧ ((soundL f l z).1 = true → (soundL f l z).2 ≤ 256)
  | [], z, _, h0, h1 => by simp only [soundL]; omega
  | v :: l, z, hf, h0, h1 => by
    obtain ⟨a, b, c⟩ := hf v (by simp) z h0 h1
    simp only [soundL]
    split
    · rename_i h
      exact soundL_le (fun x hx => hf x (by simp [hx])) a (c h)
    · exact ⟨a, b, fun h => by cases h⟩

theorem soundD_le : ∀ (d : Nat) (v : GValue) (z : Int), 0 ≤ z → z ≤ 256 → 0 ≤ (soundD d v z).2 ∧ (soundD d v z).2 ≤ 257 ∧ ((soundD d v z).1 = true → (soundD d v z).2 ≤ 256)
  | 0, v, z, h0, h1 => by
    have hc : z ≤ cnt v z ∧ cnt v z ≤ z + 1 := by unfold cnt; split <;> omega
    simp only [soundD]
    exact ⟨by omega, by omega, fun h => by cases h⟩
  | d + 1, v, z, h0, h1 => by
    have hc : z ≤ cnt v z ∧ cnt v z ≤ z + 1 := by unfold cnt; split <;> omega
    simp only [soundD]
    split
    · exact ⟨by omega, by omega, fun h => by cases h⟩
    · rename_i h
      have : ¬ 256 < cnt v z := fun e => h (.inl e)
      exact soundL_le (fun x _ => soundD_le d x) (by omega) (by omega)

theorem cnt_wrap (v : GValue) (z : Int) (h0 : 0 ≤ z) (h1 : z ≤ 256) {β : Type} (f : Int → Option β) : ift (v.kind != (0 : Int)) (f (IntKind.i64.wrap (z + 1))) (f z) = f (cnt v z) := by
  rw [w64 (by omega) (by omega)]
  unfold cnt
  by_cases h : v.kind = 0
  · simp [h, ift_ite]
  · simp [h, ift_ite]

theorem vsound_loop {d : Nat} (l : Int) (q : GValue → Int → Int → Option (Bool × Int)) (xs : List GValue) (hl : xs.length < 1000000000)
    (hq : ∀ v ∈ xs, ∀ z, 0 ≤ z → z ≤ 256 → q v l z = some (!(soundD d v z).1, (soundD d v z).2)) : ∀ (k i : Nat) (z : Int), i ≤ xs.length → xs.length - i < k → 0 ≤ z → z ≤ 256 →
    ∃ r : Int, slices_IndexFunc_api_Value_api_Value_of_value_sound_1_l1 q xs l k z (i : Int) = some (r, (soundL (soundD d) (xs.drop i) z).2) ∧ decide (0 ≤ r) = !(soundL (soundD d) (xs.drop i) z).1 := by
  intro k
  induction k with
  | zero => intro i z _ h; omega
  | succ k ih =>
    intro i z hi hk h0 h1
    rw [slices_IndexFunc_api_Value_api_Value_of_value_sound_1_l1]
    by_cases h : i = xs.length
    · subst h
      simp only [Int.lt_irrefl, decide_false, ift_false, List.drop_length, soundL, slices_IndexFunc_api_Value_api_Value_of_value_sound_1_j1]
      exact ⟨-1, rfl, rfl⟩
    · have hlt : i < xs.length := by omega
      have hm : xs[i] ∈ xs := List.getElem_mem hlt
      simp only [dec_lt hlt, ift_true, at_nat hlt, bnd_some', hq _ hm z h0 h1]
      rw [List.drop_eq_getElem_cons hlt]
      simp only [soundL]
      obtain ⟨a, b, c⟩ := soundD_le d xs[i] z h0 h1
      cases hs : (soundD d xs[i] z).1 with
      | false =>
        simp only [Bool.not_false, ift_true, Bool.false_eq_true, if_false]
        exact ⟨_, rfl, by simp⟩
      | true =>
        simp only [Bool.not_true, ift_false, if_true]
        rw [wrap_succ hlt hl]
        exact ih (i + 1) _ (by omega) (by omega) a (c hs)

theorem vsound_eq : ∀ (d k : Nat) (v : GValue) (z : Int), d ≤ 4 → 4 * d + 4 ≤ k → sizeV v < 1000000000 → 0 ≤ z → z ≤ 256 → value_sound k v (5 - d : Int) z = some (soundD d v z) := by
  intro d
  induction d with
  | zero =>
    intro k v z _ hk hs h0 h1
    obtain ⟨k, rfl⟩ : ∃ q, k = q + 1 := ⟨k - 1, by omega⟩
    rw [value_sound, cnt_wrap v z h0 h1]
    unfold value_sound_j1 value_sound_j2
    simp [soundD, ift_true]
  | succ d ih =>
    intro k v z hd hk hs h0 h1
    obtain ⟨k, rfl⟩ : ∃ q, k = q + 4 := ⟨k - 4, by omega⟩
    have hsz := sizeV_eq v
    have hlen := sizeL_len v.items
    rw [value_sound, cnt_wrap v z h0 h1]
    unfold value_sound_j1 value_sound_j2
    rw [vPlain v (by omega)]
    have e4 : ¬ (4 : Int) < 5 - ((d + 1 : Nat) : Int) := by omega
    have hc : z ≤ cnt v z ∧ cnt v z ≤ z + 1 := by unfold cnt; split <;> omega
    simp only [e4, decide_false, ift_false, soundD, bnd_some']
    by_cases h2 : (256 : Int) < cnt v z
    · simp [h2, ift_true]
    · cases hp : plainOk v with
      | false => simp [h2, ift_true, ift_false]
      | true =>
        simp only [h2, decide_false, ift_false, Bool.not_true, false_or, Bool.true_eq_false, if_false]
        have := vsound_loop (d := d) (5 - ((d + 1 : Nat) : Int)) (value_sound_1_s (k + 1)) v.items (by omega) (by
          intro x hx z h0 h1
          have := sizeL_mem hx
          rw [value_sound_1_s, w64 (by omega) (by omega), show (5 - ((d + 1 : Nat) : Int) + 1) = 5 - (d : Int) by omega, ih k x z (by omega) (by omega) (by omega) h0 h1]
          rfl) BIG 0 (cnt v z) (by omega) (by rw [big_val]; omega) (by omega) (by omega)
        obtain ⟨r, e1, e2⟩ := this
        rw [show ((0 : Nat) : Int) = (0 : Int) from rfl] at e1
        rw [slices_ContainsFunc_api_Value_api_Value_of_value_sound_1, slices_IndexFunc_api_Value_api_Value_of_value_sound_1, e1]
        simp only [bnd_some', e2, List.drop_zero, Bool.not_not]

theorem vSound (v : GValue) (hs : sizeV v < 1000000000) : value_Sound v = some (soundB v) := by
  unfold value_Sound soundB
  have := vsound_eq 4 BIG v 0 (by omega) (by rw [big_val]; omega) hs (by omega) (by omega)
  rw [show (5 - ((4 : Nat) : Int)) = (1 : Int) from rfl] at this
  rw [this]; rfl

theorem rsound_loop {d : Nat} (l : Int) (hl0 : 0 ≤ l) (hl1 : l ≤ 100) (q : GValue → Int → Int → Option (Bool × Int)) (v : GValue) (hl : v.items.length < 1000000000)
    (hq : ∀ x ∈ v.items, ∀ z, 0 ≤ z → z ≤ 256 → q x (l + 1) z = some (soundD d x z)) : ∀ (k i : Nat) (z : Int), i ≤ v.items.length → v.items.length - i < k → 0 ≤ z → z ≤ 256 →
    ref1_sound_l1 q v l k z (i : Int) = some (soundL (soundD d) (v.items.drop i) z) := by
  intro k
  induction k with
  | zero => intro i z _ h; omega
  | succ k ih =>
    intro i z hi hk h0 h1
    rw [ref1_sound_l1]
    by_cases h : i = v.items.length
    · subst h
      simp only [Int.lt_irrefl, decide_false, ift_false, List.drop_length, soundL, ref1_sound_j3]
    · have hlt : i < v.items.length := by omega
      have hm : v.items[i] ∈ v.items := List.getElem_mem hlt
      rw [w64 (x := l + 1) (by omega) (by omega)]
      simp only [dec_lt hlt, ift_true, at_nat hlt, bnd_some', hq _ hm z h0 h1]
      rw [List.drop_eq_getElem_cons hlt]
      simp only [soundL]
      obtain ⟨a, b, c⟩ := soundD_le d v.items[i] z h0 h1
      cases hs : (soundD d v.items[i] z).1 with
      | false => simp only [Bool.not_false, ift_true, Bool.false_eq_true, if_false]
      | true =>
        simp only [Bool.not_true, ift_false, if_true]
        rw [wrap_succ hlt hl]
        exact ih (i + 1) _ (by omega) (by omega) a (c hs)

theorem rsound_eq : ∀ (d k : Nat) (v : GValue) (z : Int), d ≤ 4 → d + 1 ≤ k → sizeV v < 1000000000 → 0 ≤ z → z ≤ 256 → ref1_sound k v (5 - d : Int) z = some (soundD d v z) := by
  intro d
  induction d with
  | zero =>
    intro k v z _ hk hs h0 h1
    obtain ⟨k, rfl⟩ : ∃ q, k = q + 1 := ⟨k - 1, by omega⟩
    rw [ref1_sound, cnt_wrap v z h0 h1]
    unfold ref1_sound_j1 ref1_sound_j2
    simp [soundD, ift_true]
  | succ d ih =>
    intro k v z hd hk hs h0 h1
    obtain ⟨k, rfl⟩ : ∃ q, k = q + 1 := ⟨k - 1, by omega⟩
    have hsz := sizeV_eq v
    have hlen := sizeL_len v.items
    rw [ref1_sound, cnt_wrap v z h0 h1]
    unfold ref1_sound_j1 ref1_sound_j2
    rw [rAlone v (by omega)]
    have e4 : ¬ (4 : Int) < 5 - ((d + 1 : Nat) : Int) := by omega
    have hc : z ≤ cnt v z ∧ cnt v z ≤ z + 1 := by unfold cnt; split <;> omega
    simp only [e4, decide_false, ift_false, soundD, bnd_some']
    by_cases h2 : (256 : Int) < cnt v z
    · simp [h2, ift_true]
    · cases hp : plainOk v with
      | false => simp [h2, ift_true, ift_false]
      | true =>
        simp only [h2, decide_false, ift_false, Bool.not_true, false_or, Bool.true_eq_false, if_false]
        have := rsound_loop (d := d) (5 - ((d + 1 : Nat) : Int)) (by omega) (by omega) (ref1_sound k) v (by omega) (by
          intro x hx z h0 h1
          have := sizeL_mem hx
          rw [show (5 - ((d + 1 : Nat) : Int) + 1) = 5 - (d : Int) by omega]
          exact ih k x z (by omega) (by omega) (by omega) h0 h1) BIG 0 (cnt v z) (by omega) (by rw [big_val]; omega) (by omega) (by omega)
        rw [show ((0 : Nat) : Int) = (0 : Int) from rfl, List.drop_zero] at this
        exact this

theorem rSound (v : GValue) (hs : sizeV v < 1000000000) : ref1_Sound v = some (soundB v) := by
  unfold ref1_Sound soundB
  have := rsound_eq 4 BIG v 0 (by omega) (by rw [big_val]; omega) hs (by omega) (by omega)
  rw [show (5 - ((4 : Nat) : Int)) = (1 : Int) from rfl] at this
  rw [this]; rfl

end Go.Proofs.YtdbfodeghijdlaaDoor
namespace Go.Proofs.YtdbfodeghijdlaaDoor
open Go Go.SX Go.SX.Cal
set_option linter.unusedVariables false

theorem sizeL_sum : ∀ l : List GValue, sizeL l = (l.map sizeV).sum
  | [] => by simp [sizeL]
  | x :: l => by simp [sizeL, sizeL_sum l]

theorem sz_mk (k n sc : Int) (s : ByteArray) (it : List GValue) : sizeV ⟨k, n, sc, s, it⟩ ≤ s.size + (it.map sizeV).sum + 6 := by
  simp only [sizeV, sizeL_sum]; omega

theorem sizeF_sum : ∀ l : List GField, sizeF l = (l.map sizeFd).sum
  | [] => by simp [sizeF]
  | x :: l => by simp [sizeF, sizeF_sum l]

theorem szT_mk (k s : Int) (fs : List GField) : sizeT ⟨k, s, fs⟩ ≤ (fs.map sizeFd).sum + 4 := by
  rw [sizeT_eq, sizeF_sum]; simp only; omega

theorem szF_mk (i : Int) (n : ByteArray) (q : Bool) (t : GType) : sizeFd ⟨i, n, q, t⟩ ≤ n.size + sizeT t + 4 := by
  rw [sizeFd_eq]; simp only; omega

theorem arg_value {w : World} {v : Value} {x : GValue} (h : AVRel ⟨fun _ => none, fun _ => False⟩ w [] v (.ag ((GValue.cells x).map .pv))) : AVRel ⟨fun _ => none, fun _ => False⟩ w [] v (.ag [ci x.kind, ci x.n, ci x.scale, cst x.s, cl eValue x.items]) := by
  cases x; exact h

end Go.Proofs.YtdbfodeghijdlaaDoor
namespace Go.LikeM

structure Stp where
  char : Int
  one : Bool
  many : Bool

/-- of some ending -/
def anyT (f : List Int → Bool) : List Int → Bool
  | [] => f []
  | c :: s => f (c :: s) || anyT f s

/-- the text s is matched by the steps l -/
def mat : List Stp → List Int → Bool
  | [] => fun s => s.isEmpty
  | p :: r => fun s =>
    if p.many = true then anyT (mat r) s
    else match s with
      | [] => false
      | c :: s' => (p.one || c == p.char) && mat r s'

theorem mat_many {p : Stp} (h : p.many = true) (r : List Stp) (s : List Int) : mat (p :: r) s = (mat r s || match s with | [] => false | _ :: s' => mat (p :: r) s') := by
  cases s with
  | nil => simp [mat, h, anyT]
  | cons c s' => simp [mat, h, anyT]

theorem mat_one {p : Stp} (h : p.many = false) (r : List Stp) (s : List Int) : mat (p :: r) s = match s with | [] => false | c :: s' => (p.one || c == p.char) && mat r s' := by
  simp [mat, h]

theorem mat_nil (s : List Int) : mat [] s = s.isEmpty := rfl

/-- steps one after the other -/
theorem mat_app : ∀ (a b : List Stp) (t : List Int), mat (a ++ b) t = true ↔ ∃ u v, t = u ++ v ∧ mat a u = true ∧ mat b v = true
  | [], b, t => by
    constructor
    · intro h; exact ⟨[], t, rfl, rfl, h⟩
    · rintro ⟨u, v, rfl, h1, h2⟩
      have : u = [] := by cases u with | nil => rfl | cons x u => simp [mat] at h1
      subst this; exact h2
  | p :: a, b, t => by
    cases hm : p.many with
    | false =>
      rw [List.cons_append, mat_one hm]
      cases t with
      | nil =>
        constructor
        · intro h; cases h
        · rintro ⟨u, v, h, h1, _⟩
          have hu : u = [] := (List.append_eq_nil_iff.1 h.symm).1
          subst hu
          rw [mat_one hm] at h1; cases h1
      | cons c s =>
        simp only [Bool.and_eq_true]
        rw [mat_app a b s]
        constructor
        · rintro ⟨hc, u, v, rfl, h1, h2⟩
          exact ⟨c :: u, v, rfl, by rw [mat_one hm]; simp [hc, h1], h2⟩
        · rintro ⟨u, v, h, h1, h2⟩
          rw [mat_one hm] at h1
          cases u with
          | nil => cases h1
          | cons x u =>
            simp only [Bool.and_eq_true] at h1
            simp only [List.cons_append, List.cons.injEq] at h
            obtain ⟨rfl, rfl⟩ := h
            exact ⟨h1.1, u, v, rfl, h1.2, h2⟩
    | true =>
      rw [List.cons_append]
      induction t with
      | nil =>
        rw [mat_many hm]
        simp only [Bool.or_false]
        rw [mat_app a b []]
        constructor
        · rintro ⟨u, v, h, h1, h2⟩
          exact ⟨u, v, h, by rw [mat_many hm, h1]; rfl, h2⟩
        · rintro ⟨u, v, h, h1, h2⟩
          have hu : u = [] := (List.append_eq_nil_iff.1 h.symm).1
          subst hu
          rw [mat_many hm] at h1
          simp only [Bool.or_false] at h1
          exact ⟨[], v, h, h1, h2⟩
      | cons c s ih =>
        rw [mat_many hm]
        simp only [Bool.or_eq_true]
        rw [mat_app a b (c :: s), ih]
        constructor
        · rintro (⟨u, v, h, h1, h2⟩ | ⟨u, v, h, h1, h2⟩)
          · exact ⟨u, v, h, by rw [mat_many hm, h1]; rfl, h2⟩
          · exact ⟨c :: u, v, by rw [h]; rfl, by rw [mat_many hm]; simp [h1], h2⟩
        · rintro ⟨u, v, h, h1, h2⟩
          rw [mat_many hm] at h1
          simp only [Bool.or_eq_true] at h1
          rcases h1 with h1 | h1
          · exact .inl ⟨u, v, h, h1, h2⟩
          · cases u with
            | nil => cases h1
            | cons x u =>
              simp only [List.cons_append, List.cons.injEq] at h
              obtain ⟨rfl, rfl⟩ := h
              exact .inr ⟨u, v, rfl, h1, h2⟩

theorem mat_any {p : Stp} (h : p.many = true) : ∀ v : List Int, mat [p] v = true
  | [] => by rw [mat_many h, mat_nil]; rfl
  | c :: v => by rw [mat_many h]; simp [mat_any h v]

/-- one more step behind: any number of characters -/
theorem snoc_many {a : List Stp} {p : Stp} (h : p.many = true) (t : List Int) (i : Nat) (hi : i ≤ t.length) : mat (a ++ [p]) (t.take i) = (mat a (t.take i) || (decide (0 < i) && mat (a ++ [p]) (t.take (i - 1)))) := by
  rw [Bool.eq_iff_iff]
  simp only [Bool.or_eq_true, Bool.and_eq_true, decide_eq_true_eq]
  constructor
  · intro hh
    obtain ⟨u, v, e, h1, _⟩ := (mat_app _ _ _).1 hh
    by_cases hv : v = []
    · subst hv; rw [List.append_nil] at e; rw [e]; exact .inl h1
    · right
      have hl : u.length + v.length = i := by have := congrArg List.length e; simp at this; omega
      have hv0 : v.length ≠ 0 := fun h0 => hv (List.eq_nil_of_length_eq_zero h0)
      refine ⟨by omega, (mat_app _ _ _).2 ⟨u, v.take (v.length - 1), ?_, h1, mat_any h _⟩⟩
      have : t.take (i - 1) = (u ++ v).take (i - 1) := by rw [← e, List.take_take]; congr 1; omega
      rw [this, List.take_append, List.take_of_length_le (l := u) (by omega)]
      congr 2
      omega
  · rintro (h1 | ⟨h0, h1⟩)
    · exact (mat_app _ _ _).2 ⟨_, [], by simp, h1, mat_any h _⟩
    · obtain ⟨u, v, e, h2, _⟩ := (mat_app _ _ _).1 h1
      have : t.take i = t.take (i - 1) ++ (t.take i).drop (i - 1) := by
        have := (List.take_append_drop (i - 1) (t.take i)).symm
        rw [List.take_take, show min (i - 1) i = i - 1 by omega] at this
        exact this
      exact (mat_app _ _ _).2 ⟨u, v ++ (t.take i).drop (i - 1), by rw [← List.append_assoc, ← e]; exact this, h2, mat_any h _⟩

/-- one more step behind: one character -/
theorem snoc_one {a : List Stp} {p : Stp} (h : p.many = false) (t : List Int) (i : Nat) (hi : i ≤ t.length) : mat (a ++ [p]) (t.take i) = (decide (0 < i) && ((p.one || t[i - 1]?.getD 0 == p.char) && mat a (t.take (i - 1)))) := by
  rw [Bool.eq_iff_iff]
  simp only [Bool.and_eq_true, decide_eq_true_eq]
  constructor
  · intro hh
    obtain ⟨u, v, e, h1, h2⟩ := (mat_app _ _ _).1 hh
    rw [mat_one h] at h2
    cases v with
    | nil => cases h2
    | cons c v =>
      simp only [Bool.and_eq_true, mat_nil] at h2
      have hv : v = [] := by cases v with | nil => rfl | cons x v => simp at h2
      subst hv
      have hl : u.length + 1 = i := by have := congrArg List.length e; simp at this; omega
      have hu : t.take (i - 1) = u := by
        have : t.take (i - 1) = (u ++ [c]).take (i - 1) := by rw [← e, List.take_take]; congr 1; omega
        rw [this, List.take_append_of_le_length (by omega), List.take_of_length_le (by omega)]
      have hc : t[i - 1]? = some c := by
        have : (t.take i)[i - 1]? = some c := by rw [e, List.getElem?_append_right (by omega), show i - 1 - u.length = 0 by omega]; rfl
        rwa [List.getElem?_take, if_pos (by omega)] at this
      rw [hu, hc]
      exact ⟨by omega, h2.1, h1⟩
  · rintro ⟨h0, hc, h1⟩
    have hlt : i - 1 < t.length := by omega
    have e : t.take i = t.take (i - 1) ++ [t[i - 1]] := by
      have := List.take_succ_eq_append_getElem hlt
      rwa [show i - 1 + 1 = i by omega] at this
    refine (mat_app _ _ _).2 ⟨_, _, e, h1, ?_⟩
    rw [mat_one h]
    rw [List.getElem?_eq_getElem hlt] at hc
    simp only [Option.getD_some] at hc
    simp [hc, mat_nil]

/-- the steps of a pattern; esc: a backslash stands ahead -/
def parse : Bool → List Int → List Stp
  | _, [] => []
  | true, c :: r => ⟨c, false, false⟩ :: parse false r
  | false, c :: r => if c = 92 then parse true r else if c = 37 then ⟨0, false, true⟩ :: parse false r else if c = 95 then ⟨0, true, false⟩ :: parse false r else ⟨c, false, false⟩ :: parse false r

/-- whether a backslash stands ahead in the end -/
def esc : Bool → List Int → Bool
  | b, [] => b
  | true, _ :: r => esc false r
  | false, c :: r => esc (c == 92) r

theorem esc_app : ∀ (b : Bool) (p q : List Int), esc b (p ++ q) = esc (esc b p) q
  | b, [], q => by simp [esc]
  | true, c :: p, q => by simp [esc, esc_app false p q]
  | false, c :: p, q => by simp [esc, esc_app (c == 92) p q]

/-- what the table of the other side holds -/
def B (s p : List Int) (i k : Nat) : Bool := mat (parse (esc false (p.take k)) (p.drop k)) (s.drop i)

theorem B_end (s p : List Int) (i : Nat) (hi : i ≤ s.length) : B s p i p.length = decide (i = s.length) := by
  unfold B
  rw [List.drop_length]
  have : parse (esc false (p.take p.length)) [] = [] := by cases esc false (p.take p.length) <;> rfl
  rw [this, mat_nil]
  rw [Bool.eq_iff_iff]
  simp
  omega

theorem esc_step (p : List Int) (k : Nat) (hk : k < p.length) : esc false (p.take (k + 1)) = (!(esc false (p.take k)) && p[k] == 92) := by
  rw [List.take_succ_eq_append_getElem hk, esc_app]
  cases esc false (p.take k) <;> simp [esc]

theorem lit_step (s p : List Int) (i k : Nat) (hk : k < p.length) (c : Int) (he : esc false (p.take (k + 1)) = false) : mat (⟨c, false, false⟩ :: parse false (p.drop (k + 1))) (s.drop i) = (decide (i < s.length) && ((s[i]?.getD 0 == c) && B s p (i + 1) (k + 1))) := by
  rw [mat_one rfl]
  by_cases hi : i < s.length
  · rw [List.drop_eq_getElem_cons hi]
    unfold B
    rw [he]
    simp [hi]
  · rw [List.drop_of_length_le (by omega)]
    simp [hi]

theorem B_step (s p : List Int) (i k : Nat) (hk : k < p.length) (hi : i ≤ s.length) : B s p i k =
    if esc false (p.take k) = true then (decide (i < s.length) && ((s[i]?.getD 0 == p[k]) && B s p (i + 1) (k + 1)))
    else if p[k] = 92 then B s p i (k + 1)
    else if p[k] = 37 then (B s p i (k + 1) || (decide (i < s.length) && B s p (i + 1) k))
    else if p[k] = 95 then (decide (i < s.length) && B s p (i + 1) (k + 1))
    else (decide (i < s.length) && ((s[i]?.getD 0 == p[k]) && B s p (i + 1) (k + 1))) := by
  have hst := esc_step p k hk
  have hd := List.drop_eq_getElem_cons hk
  have hB : B s p i k = mat (parse (esc false (p.take k)) (p[k] :: p.drop (k + 1))) (s.drop i) := by unfold B; rw [hd]
  rw [hB]
  cases he : esc false (p.take k) with
  | true =>
    rw [if_pos rfl]
    have he2 : esc false (p.take (k + 1)) = false := by rw [hst, he]; rfl
    simp only [parse]
    exact lit_step s p i k hk _ he2
  | false =>
    rw [if_neg (by simp)]
    simp only [parse]
    by_cases h92 : p[k] = 92
    · rw [if_pos h92, if_pos h92]
      have he2 : esc false (p.take (k + 1)) = true := by rw [hst, he, h92]; rfl
      unfold B
      rw [he2]
    · rw [if_neg h92, if_neg h92]
      have he2 : esc false (p.take (k + 1)) = false := by rw [hst, he]; simp [h92]
      by_cases h37 : p[k] = 37
      · rw [if_pos h37, if_pos h37, mat_many rfl]
        have e1 : mat (parse false (p.drop (k + 1))) (s.drop i) = B s p i (k + 1) := by unfold B; rw [he2]
        rw [e1]
        congr 1
        by_cases hi2 : i < s.length
        · rw [List.drop_eq_getElem_cons hi2]
          have : B s p (i + 1) k = mat (⟨0, false, true⟩ :: parse false (p.drop (k + 1))) (s.drop (i + 1)) := by
            unfold B; rw [hd, he]; simp only [parse]; rw [if_neg h92, if_pos h37]
          rw [this]; simp [hi2]
        · rw [List.drop_of_length_le (by omega)]; simp [hi2]
      · rw [if_neg h37, if_neg h37]
        by_cases h95 : p[k] = 95
        · rw [if_pos h95, if_pos h95, mat_one rfl]
          by_cases hi2 : i < s.length
          · rw [List.drop_eq_getElem_cons hi2]
            unfold B; rw [he2]; simp [hi2]
          · rw [List.drop_of_length_le (by omega)]; simp [hi2]
        · rw [if_neg h95, if_neg h95]
          exact lit_step s p i k hk _ he2

/-- the row of the program: which beginnings of the text match the first steps -/
def F (l : List Stp) (t : List Int) (i : Nat) : Bool := mat l (t.take i)

theorem F_nil (t : List Int) (i : Nat) (hi : i ≤ t.length) : F [] t i = decide (i = 0) := by
  unfold F
  rw [mat_nil]
  cases i with
  | zero => simp
  | succ i =>
    cases t with
    | nil => simp at hi
    | cons c t => simp

theorem F_full (l : List Stp) (t : List Int) : F l t t.length = mat l t := by unfold F; rw [List.take_length]

theorem B_zero (s p : List Int) : B s p 0 0 = mat (parse false p) s := by unfold B; simp [esc]

end Go.LikeM
namespace Go.Proofs.YtdbfodeghijdlaaDoor
open Go Go.SX Go.SX.Cal Go.Lib Go.LikeM
set_option linter.unusedVariables false
set_option linter.unusedSimpArgs false

def toG (p : Stp) : LStep := LStep.mk p.char p.one p.many

theorem dec_w (s : ByteArray) (i : Nat) (h : i < s.size) : 1 ≤ (Utf8.decode s i).2 ∧ i + (Utf8.decode s i).2 ≤ s.size := by
  by_cases hb : byt s i < 128
  · rw [decode_lo s i h hb]; exact ⟨Nat.le_refl _, h⟩
  · have := decode_skip s i h hb; exact ⟨this.1, this.2.1⟩

theorem runesAt_fuel (s : ByteArray) : ∀ (b c i : Nat), s.size - i ≤ b → s.size - i ≤ c → runesAt s b i = runesAt s c i
  | 0, c, i, hb, hc => by
    have h : ¬ i < s.size := by omega
    cases c with
    | zero => rfl
    | succ c => rw [runesAt, runesAt, if_neg h]
  | b + 1, c, i, hb, hc => by
    by_cases h : i < s.size
    · have w := dec_w s i h
      obtain ⟨c, rfl⟩ : ∃ q, c = q + 1 := ⟨c - 1, by omega⟩
      rw [runesAt, runesAt, if_pos h, if_pos h, runesAt_fuel s b c _ (by omega) (by omega)]
    · rw [runesAt, if_neg h]
      cases c with
      | zero => rfl
      | succ c => rw [runesAt, if_neg h]

/-- the characters from a place on -/
def R (s : ByteArray) (i : Nat) : List Int := runesAt s (s.size - i) i

theorem R_step {s : ByteArray} {i : Nat} (h : i < s.size) : R s i = Int.ofNat (Utf8.decode s i).1 :: R s (i + (Utf8.decode s i).2) := by
  have w := dec_w s i h
  unfold R
  obtain ⟨b, hb⟩ : ∃ b, s.size - i = b + 1 := ⟨s.size - i - 1, by omega⟩
  rw [hb, runesAt, if_pos h, runesAt_fuel s b (s.size - (i + (Utf8.decode s i).2)) _ (by omega) (by omega)]

theorem R_end {s : ByteArray} {i : Nat} (h : ¬ i < s.size) : R s i = [] := by unfold R; rw [show s.size - i = 0 by omega]; rfl
theorem R_zero (s : ByteArray) : runesS s = R s 0 := rfl

theorem steps_loop (s : ByteArray) (hs : s.size < 1000000000) : ∀ (k z : Nat) (l : List LStep) (x : Bool), s.size - z < k → l.length ≤ z → z ≤ s.size →
    value_steps_l1 s k l z x = some (l ++ (parse x (R s z)).map toG, !(esc x (R s z))) := by
  intro k
  induction k with
  | zero => intro z l x h; omega
  | succ k ih =>
    intro z l x hk hl hz
    rw [value_steps_l1]
    by_cases h : z < s.size
    · have w := dec_w s z h
      rw [R_step h]
      simp only [h, decide_true, ift_true]
      generalize Int.ofNat (Utf8.decode s z).1 = c
      generalize (Utf8.decode s z).2 = w' at w ⊢
      have nx : ∀ l' x', l'.length ≤ z + 1 → value_steps_l1 s k l' (z + w') x' = some (l' ++ (parse x' (R s (z + w'))).map toG, !(esc x' (R s (z + w')))) := fun l' x' h' => ih _ _ _ (by omega) (by omega) (by omega)
      have gl : l.length + 1 ≤ 4294967296 := by omega
      have l1 : ∀ e : LStep, (l ++ [e]).length ≤ z + 1 := fun e => by simp; omega
      cases x with
      | true =>
        rw [ift_true, grd_pos gl, nx _ _ (l1 _)]
        simp [parse, esc, toG]
      | false =>
        rw [ift_false]
        by_cases h92 : c = 92
        · have q : (c == (92 : Int)) = true := by simp [h92]
          rw [q, ift_true, nx _ _ (by omega)]
          simp [parse, esc, h92]
        · have q : (c == (92 : Int)) = false := by simp [h92]
          rw [q, ift_false]
          by_cases h37 : c = 37
          · have q2 : (c == (37 : Int)) = true := by simp [h37]
            rw [q2, ift_true, grd_pos gl, nx _ _ (l1 _)]
            simp [parse, esc, toG, h37]
          · have q2 : (c == (37 : Int)) = false := by simp [h37]
            rw [q2, ift_false]
            by_cases h95 : c = 95
            · have q3 : (c == (95 : Int)) = true := by simp [h95]
              rw [q3, ift_true, grd_pos gl, nx _ _ (l1 _)]
              simp [parse, esc, toG, h95]
            · have q3 : (c == (95 : Int)) = false := by simp [h95]
              rw [q3, ift_false, grd_pos gl, nx _ _ (l1 _)]
              simp [parse, esc, toG, h92, h37, h95, q]
    · rw [R_end h]
      simp only [h, decide_false, ift_false]
      unfold value_steps_j1
      cases x <;> simp [parse, esc]

theorem steps_eq (s : ByteArray) (hs : s.size < 1000000000) : value_steps s = some ((parse false (runesS s)).map toG, !(esc false (runesS s))) := by
  unfold value_steps
  rw [steps_loop s hs BIG 0 [] false (by rw [big_val]; omega) (Nat.zero_le _) (Nat.zero_le _), List.nil_append, R_zero]

def bI (b : Bool) : Int := if b = true then 1 else 0

theorem bI_or (x y : Bool) : IntKind.i64.wrap ((BitVec.ofInt (IntKind.i64).bits (bI x) ||| BitVec.ofInt (IntKind.i64).bits (bI y)).toNat : Int) = bI (x || y) := by
  cases x <;> cases y <;> decide

/-- a row is ready -/
def Row (t : List Int) (a : List Stp) (l : List Int) : Prop := l.length = t.length + 1 ∧ ∀ j, j ≤ t.length → l[j]? = some (bI (LikeM.F a t j))

/-- a row is ready up to a place -/
def Part (t : List Int) (a : List Stp) (i : Nat) (l : List Int) : Prop := l.length = t.length + 1 ∧ (∀ j, j < i → j ≤ t.length → l[j]? = some (bI (LikeM.F a t j))) ∧ ∀ j, i ≤ j → j ≤ t.length → l[j]? = some 0

theorem Part.set {t : List Int} {a : List Stp} {i : Nat} {l : List Int} (h : Part t a i l) (hi : i ≤ t.length) : Part t a (i + 1) (l.set i (bI (LikeM.F a t i))) := by
  obtain ⟨h1, h2, h3⟩ := h
  refine ⟨by simp [h1], fun j hj hjn => ?_, fun j hj hjn => ?_⟩
  · by_cases e : i = j
    · subst e; rw [List.getElem?_set_self (by omega)]
    · rw [List.getElem?_set_ne e]; exact h2 j (by omega) hjn
  · rw [List.getElem?_set_ne (by omega)]; exact h3 j (by omega) hjn

theorem Part.skip {t : List Int} {a : List Stp} {i : Nat} {l : List Int} (h : Part t a i l) (hi : i ≤ t.length) (hf : LikeM.F a t i = false) : Part t a (i + 1) l := by
  obtain ⟨h1, h2, h3⟩ := h
  refine ⟨h1, fun j hj hjn => ?_, fun j hj hjn => h3 j (by omega) hjn⟩
  by_cases e : i = j
  · subst e; rw [h3 i (Nat.le_refl _) hjn, hf]; rfl
  · exact h2 j (by omega) hjn

theorem at_q {α : Type} {xs : List α} {i : Nat} {x : α} (h : xs[i]? = some x) : at? xs (i : Int) = some x := by unfold at?; simp [h]

theorem like_inner (rec1 : List Int → Int → Option GValue) (p1 : GValue) (t : List Int) (ht : runesS p1.s = t) (hn : t.length < 1000000000) (x2 : List Int) (x3 : Int) (p : Stp) (a : List Stp) (hx : Row t a x2) :
    ∀ (k i : Nat) (l : List Int), i ≤ t.length + 1 → t.length + 1 - i < k → Part t (a ++ [p]) i l → ∃ l3, Row t (a ++ [p]) l3 ∧ value_Like_l2 rec1 p1 x2 x3 (toG p) k l (i : Int) = value_Like_j4 rec1 x3 l3 := by
  intro k
  induction k with
  | zero => intro i l _ h; omega
  | succ k ih =>
    intro i l hi hk hP
    rw [value_Like_l2, Int.toNat_natCast, hx.1]
    by_cases h : i = t.length + 1
    · subst h
      refine ⟨l, ⟨hP.1, fun j hj => hP.2.1 j (by omega) hj⟩, ?_⟩
      simp only [Int.lt_irrefl, decide_false, ift_false]
    · have hlt : i < t.length + 1 := by omega
      rw [dec_lt hlt]
      simp only [ift_true]
      have hw : IntKind.i64.wrap ((i : Int) + 1) = ((i + 1 : Nat) : Int) := by rw [w64 (by omega) (by omega)]; omega
      have hnext : ∀ l', Part t (a ++ [p]) (i + 1) l' → ∃ l3, Row t (a ++ [p]) l3 ∧ value_Like_j3 (value_Like_l2 rec1 p1 x2 x3 (toG p) k) (i : Int) l' = value_Like_j4 rec1 x3 l3 := by
        intro l' h'
        unfold value_Like_j3
        rw [hw]
        exact ih (i + 1) l' (by omega) (by omega) h'
      have hxi := at_q (hx.2 i (by omega))
      have hli : at? l (i : Int) = some 0 := at_q (hP.2.2 i (Nat.le_refl _) (by omega))
      have hset := hP.set (by omega)
      cases hm : p.many with
      | true =>
        have e1 : (toG p).many = true := hm
        have hsn := snoc_many (a := a) hm t i (by omega)
        simp only [e1, ift_true, hxi, bnd_some', hli, Int.toNat_natCast]
        by_cases h0 : 0 < i
        · have hd : decide ((0 : Int) < (i : Int)) = true := by simp; omega
          have hw2 : IntKind.i64.wrap ((i : Int) - 1) = ((i - 1 : Nat) : Int) := by rw [w64 (by omega) (by omega)]; omega
          have g1 : at? (l.set i (bI (LikeM.F a t i))) (i : Int) = some (bI (LikeM.F a t i)) := at_q (List.getElem?_set_self (by rw [hP.1]; exact hlt))
          have g2 : at? (l.set i (bI (LikeM.F a t i))) ((i - 1 : Nat) : Int) = some (bI (LikeM.F (a ++ [p]) t (i - 1))) := at_q (by rw [List.getElem?_set_ne (by omega)]; exact hP.2.1 _ (by omega) (by omega))
          simp only [hd, ift_true, g1, hw2, g2, bnd_some']
          rw [List.set_set]
          have : LikeM.F (a ++ [p]) t i = (LikeM.F a t i || LikeM.F (a ++ [p]) t (i - 1)) := by
            unfold LikeM.F; rw [hsn]; simp [h0]
          rw [this, ← bI_or] at hset
          exact hnext _ hset
        · have hd : decide ((0 : Int) < (i : Int)) = false := by simp; omega
          simp only [hd, ift_false]
          have : LikeM.F (a ++ [p]) t i = LikeM.F a t i := by unfold LikeM.F; rw [hsn]; simp [h0]
          rw [this] at hset
          exact hnext _ hset
      | false =>
        have e1 : (toG p).many = false := hm
        have hsn := snoc_one (a := a) hm t i (by omega)
        simp only [e1, ift_false]
        by_cases h0 : 0 < i
        · have hd : decide ((0 : Int) < (i : Int)) = true := by simp; omega
          have hw2 : IntKind.i64.wrap ((i : Int) - 1) = ((i - 1 : Nat) : Int) := by rw [w64 (by omega) (by omega)]; omega
          have g8 : at? x2 ((i - 1 : Nat) : Int) = some (bI (LikeM.F a t (i - 1))) := at_q (hx.2 _ (by omega))
          have hF : LikeM.F (a ++ [p]) t i = ((p.one || t[i - 1]?.getD 0 == p.char) && LikeM.F a t (i - 1)) := by unfold LikeM.F; rw [hsn]; simp [h0]
          have yes : (p.one || t[i - 1]?.getD 0 == p.char) = true → ∃ l3, Row t (a ++ [p]) l3 ∧ value_Like_j2 (value_Like_l2 rec1 p1 x2 x3 (toG p) k) x2 l (i : Int) true = value_Like_j4 rec1 x3 l3 := by
            intro hy
            rw [hy, Bool.true_and] at hF
            unfold value_Like_j2
            simp only [ift_true, hw2, g8, bnd_some', hli, Int.toNat_natCast]
            rw [hF] at hset
            exact hnext _ hset
          have no : (p.one || t[i - 1]?.getD 0 == p.char) = false → ∃ l3, Row t (a ++ [p]) l3 ∧ value_Like_j2 (value_Like_l2 rec1 p1 x2 x3 (toG p) k) x2 l (i : Int) false = value_Like_j4 rec1 x3 l3 := by
            intro hy
            rw [hy, Bool.false_and] at hF
            unfold value_Like_j2
            simp only [ift_false]
            exact hnext _ (hP.skip (by omega) hF)
          simp only [hd, ift_true]
          cases ho : p.one with
          | true =>
            have e2 : (toG p).one = true := ho
            simp only [e2, ift_true]
            exact yes (by rw [ho]; rfl)
          | false =>
            have e2 : (toG p).one = false := ho
            have hti : i - 1 < t.length := by omega
            have g7 : at? t ((i - 1 : Nat) : Int) = some t[i - 1] := at_nat hti
            have e3 : t[i - 1]?.getD 0 = t[i - 1] := by rw [List.getElem?_eq_getElem hti]; rfl
            simp only [e2, ift_false, ht, hw2, g7, bnd_some']
            have e4 : (toG p).char = p.char := rfl
            rw [e4]
            cases hc : t[i - 1] == p.char with
            | true => exact yes (by rw [e3, hc]; simp)
            | false => exact no (by rw [e3, hc, ho]; rfl)
        · have hd : decide ((0 : Int) < (i : Int)) = false := by simp; omega
          simp only [hd, ift_false]
          unfold value_Like_j2
          simp only [ift_false]
          have hF : LikeM.F (a ++ [p]) t i = false := by unfold LikeM.F; rw [hsn]; simp [h0]
          exact hnext _ (hP.skip (by omega) hF)

def truthV (b : Bool) : GValue := GValue.mk 1 (bI b) 0 ByteArray.empty []

theorem truth_eq (b : Bool) : value_truth b = some (truthV b) := by
  unfold value_truth value_truth_j1 truthV bI
  cases b <;> rfl

theorem like_outer (p1 : GValue) (t : List Int) (ht : runesS p1.s = t) (hn : t.length < 1000000000) (st : List Stp) (hst : st.length < 1000000000) (b : Bool) :
    ∀ (k i : Nat) (x2 : List Int), i ≤ st.length → st.length - i < k → Row t (st.take i) x2 → value_Like_l1 p1 (st.map toG, b) k x2 (i : Int) = some (truthV (mat st t)) := by
  intro k
  induction k with
  | zero => intro i x2 _ h; omega
  | succ k ih =>
    intro i x2 hi hk hx
    rw [value_Like_l1]
    have hlen : (st.map toG).length = st.length := List.length_map _
    rw [hlen]
    by_cases h : i = st.length
    · subst h
      rw [List.take_length] at hx
      simp only [Int.lt_irrefl, decide_false, ift_false]
      unfold value_Like_j5
      rw [ht, at_q (hx.2 t.length (Nat.le_refl _)), bnd_some', F_full]
      have : (bI (mat st t) == (1 : Int)) = mat st t := by cases mat st t <;> rfl
      rw [this, truth_eq]; rfl
    · have hlt : i < st.length := by omega
      rw [dec_lt hlt]
      have e2 : at? (st.map toG) (i : Int) = some (toG st[i]) := by rw [at_nat (by rw [hlen]; exact hlt)]; simp
      have hx1 := hx.1
      simp only [ift_true, e2, bnd_some']
      rw [grd_pos (by omega), Int.toNat_natCast, hx1]
      have hP : Part t (st.take i ++ [st[i]]) 0 (List.replicate (t.length + 1) (0 : Int)) :=
        ⟨by simp, fun j hj => by omega, fun j _ hj => by rw [List.getElem?_replicate, if_pos (by omega)]⟩
      obtain ⟨l3, r3, e3⟩ := like_inner (value_Like_l1 p1 (st.map toG, b) k) p1 t ht hn x2 (i : Int) st[i] (st.take i) hx BIG 0 _ (by omega) (by rw [big_val]; omega) hP
      have e3' : value_Like_l2 (value_Like_l1 p1 (st.map toG, b) k) p1 x2 (i : Int) (toG st[i]) BIG (List.replicate (t.length + 1) 0) 0 = value_Like_j4 (value_Like_l1 p1 (st.map toG, b) k) (i : Int) l3 := e3
      rw [e3']
      unfold value_Like_j4
      rw [wrap_succ hlt hst]
      rw [← List.take_succ_eq_append_getElem hlt] at r3
      exact ih (i + 1) l3 (by omega) (by omega) r3

theorem parse_len : ∀ (b : Bool) (l : List Int), (parse b l).length ≤ l.length
  | true, [] => Nat.le_refl _
  | false, [] => Nat.le_refl _
  | true, c :: r => by have := parse_len false r; simp [parse]; omega
  | false, c :: r => by
    have h1 := parse_len false r
    have h2 := parse_len true r
    simp only [parse]
    repeat' split
    all_goals simp <;> omega

def nullV : GValue := GValue.mk 0 0 0 ByteArray.empty []

/-- what Like answers -/
def likeA (p1 p2 : GValue) : GValue :=
  if p1.kind = 4 ∧ soundB p1 = true ∧ p2.kind = 4 ∧ soundB p2 = true then
    if esc false (runesS p2.s) = true then nullV else truthV (mat (parse false (runesS p2.s)) (runesS p1.s))
  else nullV

theorem runes_size (s : ByteArray) : (runesS s).length ≤ s.size := runesAt_len s s.size 0

theorem vLike1 (p : GValue) (hs : sizeV p < 1000000000) : value_Like_1 p = some (decide (p.kind = 4 ∧ soundB p = true)) := by
  unfold value_Like_1 value_Like_1_j1
  rw [ift_ite]
  by_cases h : p.kind = 4
  · rw [if_pos (by simp [h]), vSound p hs, bnd_some']
    simp [h]
  · rw [if_neg (by simp [h])]
    simp [h]

theorem vLike (p1 p2 : GValue) (h1 : sizeV p1 < 1000000000) (h2 : sizeV p2 < 1000000000) : value_Like p1 p2 = some (likeA p1 p2) := by
  have z1 := sizeV_eq p1
  have z2 := sizeV_eq p2
  have hj1 : ∀ x, value_Like_j1 p1 p2 x = some (if x = true then nullV else if esc false (runesS p2.s) = true then nullV else truthV (mat (parse false (runesS p2.s)) (runesS p1.s))) := by
    intro x
    unfold value_Like_j1
    cases x with
    | true => rfl
    | false =>
      have r1 := runes_size p1.s
      have r2 := runes_size p2.s
      have r3 := parse_len false (runesS p2.s)
      rw [ift_false, steps_eq _ (by omega), bnd_some']
      simp only [Bool.not_not, Bool.false_eq_true, if_false]
      cases he : esc false (runesS p2.s) with
      | true => rfl
      | false =>
        have hw : IntKind.i64.wrap (((runesS p1.s).length : Int) + 1) = (((runesS p1.s).length + 1 : Nat) : Int) := by rw [w64 (by omega) (by omega)]; omega
        simp only [ift_false, Bool.false_eq_true, if_false, hw]
        rw [grd_pos (by omega), grd_pos (by omega), Int.toNat_natCast]
        have e0 : at? (List.replicate ((runesS p1.s).length + 1) (0 : Int)) (0 : Int) = some 0 := at_q (i := 0) (by rw [List.getElem?_replicate, if_pos (by omega)])
        rw [e0, bnd_some']
        have hR : Row (runesS p1.s) ((parse false (runesS p2.s)).take 0) ((List.replicate ((runesS p1.s).length + 1) (0 : Int)).set (0 : Int).toNat 1) := by
          refine ⟨by simp, fun j hj => ?_⟩
          rw [List.take_zero, F_nil _ _ hj]
          cases j with
          | zero => simp [bI]
          | succ j =>
            have : (0 : Int).toNat = 0 := rfl
            rw [this, List.getElem?_set_ne (by omega), List.getElem?_replicate, if_pos (by omega)]
            simp [bI]
        have := like_outer p1 (runesS p1.s) rfl (by omega) (parse false (runesS p2.s)) (by omega) true BIG 0 _ (Nat.zero_le _) (by rw [big_val]; omega) hR
        exact this
  unfold value_Like likeA
  rw [vLike1 p1 h1, bnd_some']
  by_cases a1 : p1.kind = 4 ∧ soundB p1 = true
  · simp only [a1, and_self, decide_true, Bool.not_true, ift_false, true_and]
    rw [vLike1 p2 h2, bnd_some', hj1]
    by_cases a2 : p2.kind = 4 ∧ soundB p2 = true
    · simp [a2]
    · simp [a2]
  · have e1 : decide (p1.kind = 4 ∧ soundB p1 = true) = false := by simp [a1]
    have e2 : ¬ (p1.kind = 4 ∧ soundB p1 = true ∧ p2.kind = 4 ∧ soundB p2 = true) := fun h => a1 ⟨h.1, h.2.1⟩
    rw [e1, if_neg e2]
    simp only [Bool.not_false, ift_true]
    rw [hj1]
    rfl

end Go.Proofs.YtdbfodeghijdlaaDoor
namespace Go.Proofs.YtdbfodeghijdlaaDoor
open Go Go.SX Go.SX.Cal Go.Lib Go.LikeM
set_option linter.unusedVariables false
set_option linter.unusedSimpArgs false

theorem ext_size (s : ByteArray) (z : Nat) : (s.extract z s.size).size = s.size - z := by simp

theorem ext_ext (s : ByteArray) (z w : Nat) : (s.extract z s.size).extract w (s.size - z) = s.extract (z + w) s.size := by
  apply ByteArray.ext
  simp only [ByteArray.data_extract, Array.extract_extract]
  congr 1
  have : s.size = s.data.size := rfl
  omega

theorem dec_ext (s : ByteArray) (z : Nat) (h : z < s.size) : decodeGo (s.extract z s.size) = Utf8.decode s z := by
  unfold decodeGo
  rw [if_neg (by rw [ext_size]; omega), decode_at, decode_at, ext_size, Nat.sub_zero, tail_get!, tail_get!, tail_get!, tail_get!]
  simp [Nat.add_zero, Nat.zero_add]

theorem rrunes_loop (s : ByteArray) (hs : s.size < 1000000000) : ∀ (k z : Nat) (l : List Int), z ≤ s.size → s.size - z < k → l.length ≤ z → ref1_runes_l1 k l (s.extract z s.size) = some (l ++ R s z) := by
  intro k
  induction k with
  | zero => intro z l _ h; omega
  | succ k ih =>
    intro z l hz hk hl
    rw [ref1_runes_l1, ext_size]
    by_cases h : z < s.size
    · have w := dec_w s z h
      have hd : decide ((0 : Int) < ((s.size - z : Nat) : Int)) = true := by simp; omega
      unfold utf8_DecodeRuneInString
      rw [hd, ift_true, bnd_some', dec_ext s z h]
      simp only
      rw [grd_pos (by omega), grd_pos (by omega), Int.toNat_natCast, Int.toNat_natCast, ext_ext, ih _ _ (by omega) (by omega) (by simp; omega), R_step h]
      simp
    · have hd : decide ((0 : Int) < ((s.size - z : Nat) : Int)) = false := by simp; omega
      rw [hd, ift_false, R_end h]
      simp [ref1_runes_j1]

theorem rrunes (s : ByteArray) (hs : s.size < 1000000000) : ref1_runes s = some (runesS s) := by
  unfold ref1_runes
  have := rrunes_loop s hs BIG 0 [] (Nat.zero_le _) (by rw [big_val]; omega) (Nat.le_refl _)
  have e : s.extract 0 s.size = s := by
    apply ByteArray.ext; simp [ByteArray.data_extract]
  rw [e] at this
  rw [this, R_zero]; rfl

section
variable (s p : List Int)

/-- how many backslashes stand at the end of the first ones -/
def tbr : Nat → Nat
  | 0 => 0
  | c + 1 => if p.getD c 0 = 92 then tbr c + 1 else 0

theorem tbr_le : ∀ c, tbr p c ≤ c
  | 0 => Nat.le_refl _
  | c + 1 => by have := tbr_le c; rw [tbr]; split <;> omega

theorem esc_tbr : ∀ c, c ≤ p.length → esc false (p.take c) = decide (tbr p c % 2 = 1)
  | 0, _ => by simp [esc, tbr]
  | c + 1, h => by
    have ih := esc_tbr c (by omega)
    rw [esc_step p c (by omega), ih, tbr]
    have e : p.getD c 0 = p[c] := by simp [List.getD, List.getElem?_eq_getElem (show c < p.length by omega)]
    rw [e]
    by_cases h92 : p[c] = 92
    · rw [if_pos h92, h92]
      by_cases hm : tbr p c % 2 = 1
      · have : ¬ (tbr p c + 1) % 2 = 1 := by omega
        simp [hm, this]
      · have : (tbr p c + 1) % 2 = 1 := by omega
        simp [hm, this]
    · rw [if_neg h92]
      simp [h92]

/-- the row i of the table is ready from c on, those behind it are ready -/
def Cur (T : List (List Bool)) (i c : Nat) : Prop :=
  T.length = s.length + 1 ∧ ∀ j, j ≤ s.length → ∃ row, T[j]? = some row ∧ row.length = p.length + 1 ∧ (i < j → ∀ k, k ≤ p.length → row[k]? = some (B s p j k)) ∧
    (j = i → ∀ k, c ≤ k → k ≤ p.length → row[k]? = some (B s p j k))

/-- the rows from i on are ready -/
def Tab (T : List (List Bool)) (i : Nat) : Prop :=
  T.length = s.length + 1 ∧ ∀ j, j ≤ s.length → ∃ row, T[j]? = some row ∧ row.length = p.length + 1 ∧ (i ≤ j → ∀ k, k ≤ p.length → row[k]? = some (B s p j k))

variable {s p}

theorem Cur.set {T : List (List Bool)} {i c : Nat} {row : List Bool} (h : Cur s p T i (c + 1)) (hi : i ≤ s.length) (hr : T[i]? = some row) : Cur s p (T.set i (row.set c (B s p i c))) i c := by
  refine ⟨by simp [h.1], fun j hj => ?_⟩
  obtain ⟨r, h1, h2, h3, h4⟩ := h.2 j hj
  by_cases e : i = j
  · subst e
    rw [hr] at h1; cases h1
    refine ⟨_, List.getElem?_set_self (by rw [h.1]; omega), by simp [h2], fun hlt => absurd hlt (Nat.lt_irrefl _), fun _ k hk hkp => ?_⟩
    by_cases ek : c = k
    · subst ek; rw [List.getElem?_set_self (by omega)]
    · rw [List.getElem?_set_ne ek]; exact h4 rfl k (by omega) hkp
  · rw [List.getElem?_set_ne e]
    exact ⟨r, h1, h2, h3, fun e' => absurd e'.symm e⟩

theorem j3_eq (rec3 : List (List Bool) → Int → Option Bool) (hs : s.length < 1000000000) (hp : p.length < 1000000000) {T : List (List Bool)} {i c : Nat} (h : Cur s p T i (c + 1)) (hi : i ≤ s.length) (hc : c < p.length) :
    ∃ T', Cur s p T' i c ∧ ref1_like_j3 rec3 s p (i : Int) T (c : Int) ((tbr p c : Nat) : Int) = ref1_like_j4 rec3 (c : Int) T' := by
  obtain ⟨row, hr, hrl, _, hcur⟩ := h.2 i hi
  have hset := h.set hi hr
  have hT : at? T (i : Int) = some row := at_q hr
  have hb0 : at? row (c : Int) = some row[c] := at_nat (by omega)
  have hs1 : at? row ((c + 1 : Nat) : Int) = some (B s p i (c + 1)) := at_q (hcur rfl _ (Nat.le_refl _) (by omega))
  have hpc : at? p (c : Int) = some p[c] := at_nat hc
  have hw1 : IntKind.i64.wrap ((c : Int) + 1) = ((c + 1 : Nat) : Int) := wrap_succ hc hp
  have hw2 : IntKind.i64.wrap ((i : Int) + 1) = ((i + 1 : Nat) : Int) := by rw [w64 (by omega) (by omega)]; omega
  have done : ∀ v, v = B s p i c → ∃ T', Cur s p T' i c ∧ ref1_like_j4 rec3 (c : Int) (T.set (i : Int).toNat (row.set (c : Int).toNat v)) = ref1_like_j4 rec3 (c : Int) T' := by
    rintro v rfl
    exact ⟨_, hset, rfl⟩
  have hB := B_step s p i c hc hi
  have next : i < s.length → ∃ r2, at? T ((i + 1 : Nat) : Int) = some r2 ∧ (at? r2 ((c + 1 : Nat) : Int) = some (B s p (i + 1) (c + 1))) ∧ at? r2 (c : Int) = some (B s p (i + 1) c) := by
    intro hlt
    obtain ⟨r2, g1, g2, g3, _⟩ := h.2 (i + 1) (by omega)
    exact ⟨r2, at_q g1, at_q (g3 (by omega) _ (by omega)), at_q (g3 (by omega) _ (by omega))⟩
  have hge : ¬ i < s.length → decide ((i : Int) < (s.length : Int)) = false := fun hh => by simp; omega
  rw [esc_tbr p c (by omega)] at hB
  have hpar : (((tbr p c : Nat) : Int).tmod 2 == (1 : Int)) = decide (tbr p c % 2 = 1) := by
    rw [Int.tmod_eq_emod_of_nonneg (by omega), Bool.eq_iff_iff]
    simp only [beq_iff_eq, decide_eq_true_eq]
    omega
  -- a character that must be itself
  have lit : ∀ e : Int, e = p[c] → B s p i c = (decide (i < s.length) && ((s[i]?.getD 0 == p[c]) && B s p (i + 1) (c + 1))) →
      ∃ T', Cur s p T' i c ∧ ift (decide ((i : Int) < (s.length : Int))) (bnd (at? s (i : Int)) fun e6 => bnd (at? p (c : Int)) fun e7 =>
          ift (e6 == e7)
            (bnd (at? T (IntKind.i64.wrap ((i : Int) + (1 : Int)))) fun e8 =>
             bnd (at? e8 (IntKind.i64.wrap ((c : Int) + (1 : Int)))) fun e9 =>
             bnd (at? row (c : Int)) fun e10 =>
             ref1_like_j4 rec3 (c : Int) (T.set (i : Int).toNat (row.set (c : Int).toNat e9)))
            (bnd (at? row (c : Int)) fun e11 =>
             ref1_like_j4 rec3 (c : Int) (T.set (i : Int).toNat (row.set (c : Int).toNat false))))
         (bnd (at? row (c : Int)) fun e12 =>
          ref1_like_j4 rec3 (c : Int) (T.set (i : Int).toNat (row.set (c : Int).toNat false))) = ref1_like_j4 rec3 (c : Int) T' := by
    intro e he hBl
    by_cases hlt : i < s.length
    · have hsi : at? s (i : Int) = some s[i] := at_nat hlt
      have hgd : s[i]?.getD 0 = s[i] := by rw [List.getElem?_eq_getElem hlt]; rfl
      obtain ⟨r2, g1, g2, _⟩ := next hlt
      simp only [dec_lt hlt, ift_true, hsi, hpc, bnd_some', hw2, g1, hw1, g2, hb0]
      rw [hgd] at hBl
      cases hq : s[i] == p[c] with
      | true =>
        rw [ift_true]
        exact done _ (by rw [hBl, hq]; simp [hlt])
      | false =>
        rw [ift_false]
        exact done _ (by rw [hBl, hq]; simp)
    · simp only [hge hlt, ift_false, hb0, bnd_some']
      exact done _ (by rw [hBl]; simp [hlt])
  unfold ref1_like_j3
  rw [hpar]
  by_cases hodd : tbr p c % 2 = 1
  · simp only [hodd, decide_true, ift_true, hT, bnd_some']
    rw [if_pos (by simp [hodd])] at hB
    exact lit p[c] rfl hB
  · have hne : ¬ (decide (tbr p c % 2 = 1) = true) := by simp [hodd]
    rw [if_neg hne] at hB
    have hf : decide (tbr p c % 2 = 1) = false := by simp [hodd]
    simp only [hf, ift_false, hpc, bnd_some', hT]
    by_cases h92 : p[c] = 92
    · rw [if_pos h92] at hB
      have q : (p[c] == (92 : Int)) = true := by simp [h92]
      simp only [q, ift_true, hw1, hs1, hb0, bnd_some']
      exact done _ hB.symm
    · rw [if_neg h92] at hB
      have q : (p[c] == (92 : Int)) = false := by simp [h92]
      simp only [q, ift_false]
      by_cases h37 : p[c] = 37
      · rw [if_pos h37] at hB
        have q2 : (p[c] == (37 : Int)) = true := by simp [h37]
        simp only [q2, ift_true, hw1, hs1, bnd_some', hb0]
        cases hb : B s p i (c + 1) with
        | true =>
          simp only [ift_true]
          exact done _ (by rw [hB, hb]; rfl)
        | false =>
          simp only [ift_false]
          rw [hb, Bool.false_or] at hB
          by_cases hlt : i < s.length
          · obtain ⟨r2, g1, _, g3⟩ := next hlt
            simp only [dec_lt hlt, ift_true, hw2, g1, g3, bnd_some']
            exact done _ (by rw [hB]; simp [hlt])
          · simp only [hge hlt, ift_false]
            exact done _ (by rw [hB]; simp [hlt])
      · rw [if_neg h37] at hB
        have q2 : (p[c] == (37 : Int)) = false := by simp [h37]
        simp only [q2, ift_false]
        by_cases h95 : p[c] = 95
        · rw [if_pos h95] at hB
          have q3 : (p[c] == (95 : Int)) = true := by simp [h95]
          simp only [q3, ift_true, bnd_some', hb0]
          by_cases hlt : i < s.length
          · obtain ⟨r2, g1, g2, _⟩ := next hlt
            simp only [dec_lt hlt, ift_true, hw2, g1, hw1, g2, bnd_some']
            exact done _ (by rw [hB]; simp [hlt])
          · simp only [hge hlt, ift_false]
            exact done _ (by rw [hB]; simp [hlt])
        · rw [if_neg h95] at hB
          have q3 : (p[c] == (95 : Int)) = false := by simp [h95]
          simp only [q3, ift_false, bnd_some']
          have := lit p[c] rfl hB
          simp only [hpc, bnd_some'] at this
          exact this

theorem count_loop (rec3 : List (List Bool) → Int → Option Bool) (hp : p.length < 1000000000) (x2 : Int) (T : List (List Bool)) (x3 : Int) : ∀ (c x k : Nat), c < k → c ≤ p.length → x + c ≤ p.length →
    ref1_like_l4 rec3 s p x2 T x3 k (x : Int) ((c : Int) - 1) = ref1_like_j3 rec3 s p x2 T x3 ((x + tbr p c : Nat) : Int)
  | 0, x, 0, h, _, _ => by omega
  | 0, x, k + 1, _, _, _ => by
    rw [ref1_like_l4]
    have : decide ((0 : Int) ≤ ((0 : Nat) : Int) - 1) = false := by decide
    rw [this, ift_false]
    unfold ref1_like_j2
    rw [ift_false]; rfl
  | c + 1, x, 0, h, _, _ => by omega
  | c + 1, x, k + 1, hk, hc, hx => by
    rw [ref1_like_l4]
    have e1 : (((c + 1 : Nat) : Int) - 1) = (c : Int) := by omega
    have e2 : decide ((0 : Int) ≤ (c : Int)) = true := by simp
    have e3 : at? p (c : Int) = some p[c] := at_nat (by omega)
    rw [e1, e2, ift_true, e3, bnd_some']
    unfold ref1_like_j2
    rw [tbr]
    have e : p.getD c 0 = p[c] := by simp [List.getD, List.getElem?_eq_getElem (show c < p.length by omega)]
    rw [e]
    by_cases h92 : p[c] = 92
    · have q : (p[c] == (92 : Int)) = true := by simp [h92]
      rw [q, ift_true, if_pos h92]
      have w1 : IntKind.i64.wrap ((x : Int) + 1) = ((x + 1 : Nat) : Int) := by rw [w64 (by omega) (by omega)]; omega
      have w2 : IntKind.i64.wrap ((c : Int) - 1) = (c : Int) - 1 := w64 (by omega) (by omega)
      rw [w1, w2, count_loop rec3 hp x2 T x3 c (x + 1) k (by omega) (by omega) (by omega)]
      congr 1
      omega
    · have q : (p[c] == (92 : Int)) = false := by simp [h92]
      rw [q, ift_false, if_neg h92]
      rfl

theorem row_loop (rec2 : List (List Bool) → Int → Option Bool) (hs : s.length < 1000000000) (hp : p.length < 1000000000) {i : Nat} (hi : i ≤ s.length) : ∀ (k c : Nat) (T : List (List Bool)), c ≤ p.length → c < k → Cur s p T i c →
    ∃ T', Cur s p T' i 0 ∧ ref1_like_l3 rec2 s p (i : Int) k T ((c : Int) - 1) = ref1_like_j5 rec2 (i : Int) T' := by
  intro k
  induction k with
  | zero => intro c T _ h; omega
  | succ k ih =>
    intro c T hc hk hT
    rw [ref1_like_l3]
    cases c with
    | zero =>
      have : decide ((0 : Int) ≤ ((0 : Nat) : Int) - 1) = false := by decide
      rw [this, ift_false]
      exact ⟨T, hT, rfl⟩
    | succ c =>
      have e1 : (((c + 1 : Nat) : Int) - 1) = (c : Int) := by omega
      have e2 : decide ((0 : Int) ≤ (c : Int)) = true := by simp
      have w2 : IntKind.i64.wrap ((c : Int) - 1) = (c : Int) - 1 := w64 (by omega) (by omega)
      rw [e1, e2, ift_true, w2]
      have hcl := count_loop (s := s) (ref1_like_l3 rec2 s p (i : Int) k) hp (i : Int) T (c : Int) c 0 BIG (by rw [big_val]; omega) (by omega) (by omega)
      rw [Nat.zero_add] at hcl
      rw [show ((0 : Nat) : Int) = (0 : Int) from rfl] at hcl
      rw [hcl]
      obtain ⟨T', h1, h2⟩ := j3_eq (ref1_like_l3 rec2 s p (i : Int) k) hs hp hT hi (by omega)
      rw [h2]
      unfold ref1_like_j4
      rw [w2]
      exact ih c T' (by omega) (by omega) h1

theorem Cur.tab {T : List (List Bool)} {i : Nat} (h : Cur s p T i 0) : Tab s p T i := by
  refine ⟨h.1, fun j hj => ?_⟩
  obtain ⟨row, h1, h2, h3, h4⟩ := h.2 j hj
  refine ⟨row, h1, h2, fun hij => ?_⟩
  by_cases e : j = i
  · exact fun k hk => h4 e k (Nat.zero_le _) hk
  · exact h3 (by omega)

theorem Tab.cur {T : List (List Bool)} {i : Nat} {row : List Bool} (h : Tab s p T (i + 1)) (hi : i ≤ s.length) (hr : T[i]? = some row) : Cur s p (T.set i (row.set p.length (decide (i = s.length)))) i p.length := by
  refine ⟨by simp [h.1], fun j hj => ?_⟩
  obtain ⟨r, h1, h2, h3⟩ := h.2 j hj
  by_cases e : i = j
  · subst e
    rw [hr] at h1; cases h1
    refine ⟨_, List.getElem?_set_self (by rw [h.1]; omega), by simp [h2], fun hlt => absurd hlt (Nat.lt_irrefl _), fun _ k hk hkp => ?_⟩
    have : k = p.length := by omega
    subst this
    rw [List.getElem?_set_self (by omega), B_end s p i hi]
  · rw [List.getElem?_set_ne e]
    exact ⟨r, h1, h2, fun hlt => h3 (by omega), fun e' => absurd e'.symm e⟩

theorem tab_loop (hs : s.length < 1000000000) (hp : p.length < 1000000000) : ∀ (k i : Nat) (T : List (List Bool)), i ≤ s.length + 1 → i < k → Tab s p T i → ref1_like_l2 s p k T ((i : Int) - 1) = some (B s p 0 0) := by
  intro k
  induction k with
  | zero => intro i T _ h; omega
  | succ k ih =>
    intro i T hi hk hT
    rw [ref1_like_l2]
    cases i with
    | zero =>
      have : decide ((0 : Int) ≤ ((0 : Nat) : Int) - 1) = false := by decide
      rw [this, ift_false]
      obtain ⟨row, h1, h2, h3⟩ := hT.2 0 (Nat.zero_le _)
      have e1 : at? T (0 : Int) = some row := at_q (i := 0) h1
      have e2 : at? row (0 : Int) = some (B s p 0 0) := at_q (i := 0) (h3 (Nat.le_refl _) 0 (Nat.zero_le _))
      unfold ref1_like_j6
      rw [e1, bnd_some', e2, bnd_some']
    | succ i =>
      have e1 : (((i + 1 : Nat) : Int) - 1) = (i : Int) := by omega
      have e2 : decide ((0 : Int) ≤ (i : Int)) = true := by simp
      obtain ⟨row, h1, h2, h3⟩ := hT.2 i (by omega)
      have g1 : at? T (i : Int) = some row := at_q h1
      have g2 : at? row (p.length : Int) = some row[p.length] := at_nat (by omega)
      have w2 : IntKind.i64.wrap ((p.length : Int) - 1) = (p.length : Int) - 1 := w64 (by omega) (by omega)
      have e3 : ((i : Int) == (s.length : Int)) = decide (i = s.length) := by
        rw [Bool.eq_iff_iff]; simp only [beq_iff_eq, decide_eq_true_eq]; omega
      rw [e1, e2, ift_true, g1, bnd_some', g2, bnd_some', w2, e3, Int.toNat_natCast, Int.toNat_natCast]
      obtain ⟨T', t1, t2⟩ := row_loop (ref1_like_l2 s p k) hs hp (by omega) BIG p.length _ (Nat.le_refl _) (by rw [big_val]; omega) (hT.cur (by omega) h1)
      rw [t2]
      unfold ref1_like_j5
      have w3 : IntKind.i64.wrap ((i : Int) - 1) = (i : Int) - 1 := w64 (by omega) (by omega)
      rw [w3]
      exact ih i T' (by omega) (by omega) t1.tab

theorem init_loop (hs : s.length < 1000000000) (hp : p.length < 1000000000) : ∀ (k i : Nat) (T : List (List Bool)), i ≤ s.length + 1 → s.length + 1 - i < k → T.length = s.length + 1 → (∀ j, j < i → T[j]? = some (List.replicate (p.length + 1) false)) →
    ∃ T', T'.length = s.length + 1 ∧ (∀ j, j < s.length + 1 → T'[j]? = some (List.replicate (p.length + 1) false)) ∧ ref1_like_l1 s p ((s.length + 1 : Nat) : Int) k T (i : Int) = ref1_like_j1 s p T' := by
  intro k
  induction k with
  | zero => intro i T _ h; omega
  | succ k ih =>
    intro i T hi hk hl hT
    rw [ref1_like_l1]
    by_cases h : i = s.length + 1
    · subst h
      simp only [Int.lt_irrefl, decide_false, ift_false]
      exact ⟨T, hl, hT, rfl⟩
    · have hlt : i < s.length + 1 := by omega
      have hw : IntKind.i64.wrap ((p.length : Int) + 1) = ((p.length + 1 : Nat) : Int) := by rw [w64 (by omega) (by omega)]; omega
      have hw1 : IntKind.i64.wrap ((i : Int) + 1) = ((i + 1 : Nat) : Int) := by rw [w64 (by omega) (by omega)]; omega
      have g1 : at? T (i : Int) = some T[i] := at_nat (by omega)
      rw [dec_lt hlt, ift_true, hw, grd_pos (by omega), g1, bnd_some', hw1, Int.toNat_natCast, Int.toNat_natCast]
      refine ih (i + 1) _ (by omega) (by omega) (by simp [hl]) (fun j hj => ?_)
      by_cases e : i = j
      · subst e; rw [List.getElem?_set_self (by omega)]
      · rw [List.getElem?_set_ne e]; exact hT j (by omega)

theorem rlike (hs : s.length < 1000000000) (hp : p.length < 1000000000) : ref1_like s p = some (mat (parse false p) s) := by
  unfold ref1_like
  have hw : IntKind.i64.wrap ((s.length : Int) + 1) = ((s.length + 1 : Nat) : Int) := by rw [w64 (by omega) (by omega)]; omega
  rw [hw, grd_pos (by omega), bnd_some', Int.toNat_natCast]
  obtain ⟨T, t1, t2, t3⟩ := init_loop hs hp BIG 0 (List.replicate (s.length + 1) []) (Nat.zero_le _) (by rw [big_val]; omega) (by simp) (fun j hj => by omega)
  have t3' : ref1_like_l1 s p ((s.length + 1 : Nat) : Int) BIG (List.replicate (s.length + 1) []) (0 : Int) = ref1_like_j1 s p T := t3
  rw [t3']
  unfold ref1_like_j1
  have hT : Tab s p T (s.length + 1) := ⟨t1, fun j hj => ⟨_, t2 j (by omega), by simp, fun h => by omega⟩⟩
  have := tab_loop hs hp BIG (s.length + 1) T (Nat.le_refl _) (by rw [big_val]; omega) hT
  have e : (((s.length + 1 : Nat) : Int) - 1) = (s.length : Int) := by omega
  rw [e] at this
  rw [this, B_zero]

end

/-- how many bytes 92 stand at the end of the first ones -/
def tb (s : ByteArray) : Nat → Nat
  | 0 => 0
  | i + 1 => if byt s i = 92 then tb s i + 1 else 0

theorem esc_tb (s : ByteArray) : ∀ (d z : Nat) (b : Bool), s.size - z ≤ d → z ≤ s.size → b = decide (tb s z % 2 = 1) → esc b (R s z) = decide (tb s s.size % 2 = 1) := by
  intro d
  induction d with
  | zero =>
    intro z b hd hz hb
    have : z = s.size := by omega
    subst this
    rw [R_end (Nat.lt_irrefl _), hb]
    cases decide (tb s s.size % 2 = 1) <;> rfl
  | succ d ih =>
    intro z b hd hz hb
    by_cases h : z < s.size
    · have w := dec_w s z h
      rw [R_step h]
      by_cases hlo : byt s z < 128
      · rw [decode_lo s z h hlo]
        have ht : tb s (z + 1) = if byt s z = 92 then tb s z + 1 else 0 := rfl
        have goal := ih (z + 1) (decide (tb s (z + 1) % 2 = 1)) (by omega) (by omega) rfl
        rw [← goal]
        have : decide (tb s (z + 1) % 2 = 1) = (!b && byt s z == 92) := by
          rw [ht, hb]
          by_cases h92 : byt s z = 92
          · rw [if_pos h92, h92]
            by_cases hm : tb s z % 2 = 1
            · have : ¬ (tb s z + 1) % 2 = 1 := by omega
              simp [hm, this]
            · have : (tb s z + 1) % 2 = 1 := by omega
              simp [hm, this]
          · rw [if_neg h92]; simp [h92]
        rw [this]
        cases b with
        | true => simp [esc]
        | false =>
          simp only [esc, Bool.not_false, Bool.true_and]
          have : (Int.ofNat (byt s z) == (92 : Int)) = (byt s z == 92) := by
            rw [Bool.eq_iff_iff]; simp only [beq_iff_eq]
            constructor
            · intro hh; have : ((byt s z : Nat) : Int) = 92 := hh; omega
            · intro hh; rw [hh]; rfl
          rw [this]
      · have h1 := decode_hi s z h hlo
        have h2 := decode_skip s z h hlo
        generalize Utf8.decode s z = cw at *
        obtain ⟨q, hq⟩ : ∃ q, z + cw.2 = q + 1 := ⟨z + cw.2 - 1, by omega⟩
        have ht : tb s (z + cw.2) = 0 := by
          rw [hq, tb, if_neg]
          have := h2.2.2 q (by omega) (by omega)
          omega
        have goal := ih (z + cw.2) false (by omega) (by omega) (by rw [ht]; rfl)
        rw [← goal]
        cases b with
        | true => rfl
        | false =>
          have : (Int.ofNat cw.1 == (92 : Int)) = false := by
            rw [beq_eq_false_iff_ne]
            intro hh
            have : ((cw.1 : Nat) : Int) = 92 := hh
            omega
          simp only [esc, this]
    · have : z = s.size := by omega
      subst this
      rw [R_end h, hb]
      cases decide (tb s s.size % 2 = 1) <;> rfl

theorem esc_bytes (s : ByteArray) : esc false (runesS s) = decide (tb s s.size % 2 = 1) := by
  rw [R_zero]; exact esc_tb s s.size 0 false (by omega) (Nat.zero_le _) rfl

theorem tail_loop (p1 p2 : GValue) (hs : p2.s.size < 1000000000) : ∀ (i x k : Nat), i < k → x + i = p2.s.size → ref1_Like_l1 p1 p2 k (x : Int) = ref1_Like_j3 p1 p2 ((x + tb p2.s i : Nat) : Int)
  | 0, x, 0, h, _ => by omega
  | i + 1, x, 0, h, _ => by omega
  | 0, x, k + 1, _, hx => by
    rw [ref1_Like_l1]
    have : decide ((x : Int) < (p2.s.size : Int)) = false := by simp; omega
    rw [this, ift_false]
    unfold ref1_Like_j2
    rw [ift_false]; rfl
  | i + 1, x, k + 1, hk, hx => by
    rw [ref1_Like_l1]
    have e0 : decide ((x : Int) < (p2.s.size : Int)) = true := by simp; omega
    have w1 : IntKind.i64.wrap ((p2.s.size : Int) - 1) = (p2.s.size : Int) - 1 := w64 (by omega) (by omega)
    have w2 : IntKind.i64.wrap ((p2.s.size : Int) - 1 - (x : Int)) = ((i : Nat) : Int) := by rw [w64 (by omega) (by omega)]; omega
    rw [e0, ift_true, w1, w2, bnd_some', grd_pos (by omega), Int.toNat_natCast]
    unfold ref1_Like_j2
    rw [tb]
    have q : (((p2.s.data.toList.getD i 0).toNat : Int) == (92 : Int)) = decide (byt p2.s i = 92) := by
      unfold byt
      rw [Bool.eq_iff_iff]; simp only [beq_iff_eq, decide_eq_true_eq]; omega
    rw [q]
    by_cases h92 : byt p2.s i = 92
    · have w3 : IntKind.i64.wrap ((x : Int) + 1) = ((x + 1 : Nat) : Int) := by rw [w64 (by omega) (by omega)]; omega
      simp only [h92, decide_true, ift_true, if_true, w3]
      rw [tail_loop p1 p2 hs i (x + 1) k (by omega) (by omega)]
      congr 1
      omega
    · simp only [h92, decide_false, ift_false, if_false]
      rfl

theorem rLike (p1 p2 : GValue) (h1 : sizeV p1 < 1000000000) (h2 : sizeV p2 < 1000000000) : ref1_Like p1 p2 = some (likeA p1 p2) := by
  have z1 := sizeV_eq p1
  have z2 := sizeV_eq p2
  have hj1 : ∀ x, ref1_Like_j1 p1 p2 x = some (if x = true then nullV else if esc false (runesS p2.s) = true then nullV else truthV (mat (parse false (runesS p2.s)) (runesS p1.s))) := by
    intro x
    unfold ref1_Like_j1
    cases x with
    | true => rfl
    | false =>
      have r1 := runes_size p1.s
      have r2 := runes_size p2.s
      have ht := tail_loop p1 p2 (by omega) p2.s.size 0 BIG (by rw [big_val]; omega) (by omega)
      rw [Nat.zero_add, show ((0 : Nat) : Int) = (0 : Int) from rfl] at ht
      rw [ift_false, ht, esc_bytes]
      unfold ref1_Like_j3
      have hpar : (((tb p2.s p2.s.size : Nat) : Int).tmod 2 == (1 : Int)) = decide (tb p2.s p2.s.size % 2 = 1) := by
        rw [Int.tmod_eq_emod_of_nonneg (by omega), Bool.eq_iff_iff]
        simp only [beq_iff_eq, decide_eq_true_eq]
        omega
      rw [hpar]
      cases decide (tb p2.s p2.s.size % 2 = 1) with
      | true => rfl
      | false =>
        simp only [ift_false, Bool.false_eq_true, if_false]
        rw [rrunes _ (by omega), bnd_some', rrunes _ (by omega), bnd_some', rlike (by omega) (by omega), bnd_some']
        unfold ref1_Like_j4 truthV bI
        cases mat (parse false (runesS p2.s)) (runesS p1.s) <;> rfl
  have hn : ref1_Like_j1 p1 p2 true = some nullV := by rw [hj1]; rfl
  unfold ref1_Like likeA
  rw [hn]
  by_cases k1 : p1.kind = 4
  · have q1 : (p1.kind != (4 : Int)) = false := by simp [k1]
    rw [q1, ift_false]
    by_cases k2 : p2.kind = 4
    · have q2 : (p2.kind != (4 : Int)) = false := by simp [k2]
      rw [q2, ift_false, rSound p1 h1, bnd_some']
      cases s1 : soundB p1 with
      | false => simp [ift_true]
      | true =>
        rw [Bool.not_true, ift_false, rSound p2 h2, bnd_some', hj1]
        cases s2 : soundB p2 with
        | false => simp
        | true => simp [k1, k2]
    · have q2 : (p2.kind != (4 : Int)) = true := by simp [k2]
      rw [q2, ift_true, if_neg (fun h => k2 h.2.2.1)]
  · have q1 : (p1.kind != (4 : Int)) = true := by simp [k1]
    rw [q1, ift_true, if_neg (fun h => k1 h.1)]

end Go.Proofs.YtdbfodeghijdlaaDoor
namespace Go.Proofs.YtdbfodeghijdlaaDoor
open Go Go.SX Go.SX.Cal Go.Lib Go.LikeM
set_option linter.unusedVariables false
set_option linter.unusedSimpArgs false

theorem exactly_loop {d : Nat} (q : GValue → GValue → Option Bool) (v : GValue) (hl : v.items.length < 1000000000) (hq : ∀ x ∈ v.items, q x x = some true) : ∀ (m k i : Nat), i + m = v.items.length → m < k → law1_exactly_l1 q v v k (i : Int) = some true := by
  intro m
  induction m with
  | zero =>
    intro k i hi hk
    obtain ⟨k, rfl⟩ : ∃ q, k = q + 1 := ⟨k - 1, by omega⟩
    rw [law1_exactly_l1, show decide ((i : Int) < (v.items.length : Int)) = false by simp; omega, ift_false]; rfl
  | succ m ih =>
    intro k i hi hk
    obtain ⟨k, rfl⟩ : ∃ q, k = q + 1 := ⟨k - 1, by omega⟩
    have hi' : i < v.items.length := by omega
    rw [law1_exactly_l1, dec_lt hi', ift_true, at_nat hi', bnd_some', bnd_some', hq _ (List.getElem_mem hi'), bnd_some', Bool.not_true, ift_false, wrap_succ hi' hl]
    exact ih k (i + 1) (by omega) (by omega)

theorem exactly_refl : ∀ (k : Nat) (v : GValue), sizeV v < k → sizeV v < 1000000000 → law1_exactly k v v = some true := by
  intro k
  induction k with
  | zero => intro v h; omega
  | succ k ih =>
    intro v hk hv
    have hl := sizeL_len v.items
    have he := sizeV_eq v
    rw [law1_exactly, show (v.kind != v.kind) = false by simp, show (v.n != v.n) = false by simp, show (v.scale != v.scale) = false by simp, show (!(v.s.toList == v.s.toList)) = false by simp, show ((v.items.length : Int) != (v.items.length : Int)) = false by simp]
    simp only [ift_false]
    unfold law1_exactly_j1
    rw [ift_false]
    refine exactly_loop (d := 0) _ v (by omega) (fun x hx => ?_) v.items.length BIG 0 (by omega) (by rw [big_val]; omega)
    have := sizeL_mem hx
    exact ih x (by omega) (by omega)

theorem exactly_same (v : GValue) (hv : sizeV v < 1000000000) : law1_exactly BIG v v = some true := exactly_refl BIG v (by rw [big_val]; omega) hv


theorem size_likeA (p1 p2 : GValue) : sizeV (likeA p1 p2) < 1000000000 := by
  have hn : sizeV nullV < 1000000000 := by unfold nullV; simp only [sizeL, sizeV, show ByteArray.empty.size = 0 from rfl]; omega
  have ht : ∀ b, sizeV (truthV b) < 1000000000 := by intro b; unfold truthV; simp only [sizeL, sizeV, show ByteArray.empty.size = 0 from rfl]; omega
  unfold likeA
  split
  · split
    · exact hn
    · exact ht _
  · exact hn

theorem law_likes (p1 p2 : GValue) (h1 : sizeV p1 < 1000000000) (h2 : sizeV p2 < 1000000000) : law1_ValueLikesMatchSpec p1 p2 = some true := by
  have e1 : value_Like (GValue.mk (4 : Int) (0 : Int) (0 : Int) (ByteArray.mk #[97]) []) (GValue.mk (4 : Int) (0 : Int) (0 : Int) (ByteArray.mk #[97]) []) = some (GValue.mk 1 1 0 ByteArray.empty []) := by
    have ha : sizeV (GValue.mk (4 : Int) (0 : Int) (0 : Int) (ByteArray.mk #[97]) []) < 1000000000 := by
      simp only [sizeL, sizeV, show (ByteArray.mk #[97]).size = 1 from rfl]; omega
    rw [vLike _ _ ha ha]
    have hs : soundB (GValue.mk (4 : Int) (0 : Int) (0 : Int) (ByteArray.mk #[97]) []) = true := by decide +kernel
    have hr : runesS (ByteArray.mk #[97]) = [97] := by decide +kernel
    unfold likeA
    rw [if_pos ⟨rfl, hs, rfl, hs⟩]
    simp only [hr]
    rfl
  unfold law1_ValueLikesMatchSpec
  rw [e1, bnd_some', exactly_same _ (by simp only [sizeL, sizeV, show ByteArray.empty.size = 0 from rfl]; omega), bnd_some', ift_true, vLike p1 p2 h1 h2, bnd_some', rLike p1 p2 h1 h2, bnd_some', exactly_same _ (size_likeA p1 p2), bnd_some']
  rfl

end Go.Proofs.YtdbfodeghijdlaaDoor
