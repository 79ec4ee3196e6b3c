/- The calendar, in plain integers. -/
import Derived.Test.YtdkmclmdemngfaaDoorSxGen
namespace Go.SX.Cal
open Go
set_option linter.unusedVariables false

theorem w64 {x : Int} (h1 : -9223372036854775808 ≤ x) (h2 : x ≤ 9223372036854775807) : IntKind.i64.wrap x = x := by
  simp only [IntKind.wrap, IntKind.bits, IntKind.signed]
  simp only [Bool.true_and, decide_eq_true_eq, ge_iff_le]
  split <;> omega

/-! ### years of an era -/

def S (y : Int) : Int := 365 * y + y / 4 - y / 100
def F (r : Int) : Int := r - r / 1460 + r / 36524
def yr (r : Int) : Int := (r - r / 1460 + r / 36524 - r / 146096) / 365

theorem table : ((List.range 400).all fun y => decide (F (S (y : Int)) / 365 = y ∧ F (S ((y : Int) + 1) - 1) / 365 = y)) = true := by decide +kernel

theorem table_at {y : Int} (h0 : 0 ≤ y) (h1 : y ≤ 399) : F (S y) / 365 = y ∧ F (S (y + 1) - 1) / 365 = y := by
  have := List.all_eq_true.1 table y.toNat (List.mem_range.2 (by omega))
  have h := of_decide_eq_true this
  rw [Int.toNat_of_nonneg h0] at h
  exact h

theorem F_mono {r s : Int} (h : r ≤ s) : F r ≤ F s := by unfold F; omega

theorem yr_bound {r : Int} (h0 : 0 ≤ r) (h1 : r ≤ 146096) : 0 ≤ yr r ∧ yr r ≤ 399 := by unfold yr; omega

theorem yr_eq {r : Int} (h0 : 0 ≤ r) (h1 : r ≤ 146095) : yr r = F r / 365 := by
  unfold yr F
  have : r / 146096 = 0 := by omega
  rw [this, Int.sub_zero]

/-- a year has 366 days -/
def leap (y : Int) : Prop := y % 4 = 0 ∧ (y % 100 ≠ 0 ∨ y % 400 = 0)

instance (y : Int) : Decidable (leap y) := by unfold leap; infer_instance

theorem yr_ok {r : Int} (h0 : 0 ≤ r) (h1 : r ≤ 146096) : S (yr r) ≤ r ∧ r ≤ S (yr r) + 365 ∧ (r = S (yr r) + 365 → leap (yr r + 1)) := by
  obtain ⟨b0, b1⟩ := yr_bound h0 h1
  by_cases hr : r = 146096
  · subst hr; decide +kernel
  have h2 : r ≤ 146095 := by omega
  have e := yr_eq h0 h2
  generalize yr r = y at *
  have lo : S y ≤ r := by
    apply Classical.byContradiction
    intro hn
    have hy : 1 ≤ y := by
      apply Classical.byContradiction
      intro hy
      have : y = 0 := by omega
      subst this
      simp [S] at hn
      omega
    have t := (table_at (y := y - 1) (by omega) (by omega)).2
    rw [show y - 1 + 1 = y by omega] at t
    have := F_mono (show r ≤ S y - 1 by omega)
    have : F r / 365 ≤ y - 1 := by rw [← t]; exact Int.ediv_le_ediv (by decide) this
    omega
  have hi : r < S (y + 1) ∨ y = 399 := by
    by_cases hy : y = 399
    · exact .inr hy
    left
    apply Classical.byContradiction
    intro hn
    have t := (table_at (y := y + 1) (by omega) (by omega)).1
    have := F_mono (show S (y + 1) ≤ r by omega)
    have : y + 1 ≤ F r / 365 := by rw [← t]; exact Int.ediv_le_ediv (by decide) this
    omega
  refine ⟨lo, ?_, fun he => ?_⟩
  · rcases hi with hi | rfl
    · unfold S at *; omega
    · simp [S] at *; omega
  · rcases hi with hi | rfl
    · unfold S at *
      have h4 : (y + 1) / 4 = y / 4 + 1 ∧ (y + 1) / 100 = y / 100 := by omega
      exact ⟨by omega, .inl (by omega)⟩
    · simp [S] at *; omega

/-! ### days -/

def mdays (m : Int) : Int := (153 * m + 2) / 5

/-- days from 1970-01-01 -/
def days (y m d : Int) : Int :=
  if m ≤ 2 then (y - 1) / 400 * 146097 + S ((y - 1) % 400) + mdays (m + 9) + d - 1 - 719468 else y / 400 * 146097 + S (y % 400) + mdays (m - 3) + d - 1 - 719468

def dim (y m : Int) : Int := if m = 2 then (if leap y then 29 else 28) else if m = 4 ∨ m = 6 ∨ m = 9 ∨ m = 11 then 30 else 31

def date (n : Int) : Int × Int × Int :=
  let era := (n + 719468) / 146097
  let r := (n + 719468) % 146097
  let y := yr r
  let k := r - S y
  let m := (5 * k + 2) / 153
  let d := k - mdays m + 1
  if m + 3 > 12 then (era * 400 + y + 1, m + 3 - 12, d) else (era * 400 + y, m + 3, d)

theorem date_ok (n : Int) : days (date n).1 (date n).2.1 (date n).2.2 = n ∧ 1 ≤ (date n).2.1 ∧ (date n).2.1 ≤ 12 ∧ 1 ≤ (date n).2.2 ∧ (date n).2.2 ≤ dim (date n).1 (date n).2.1 := by
  simp only [date]
  have hr0 : 0 ≤ (n + 719468) % 146097 := by omega
  have hr1 : (n + 719468) % 146097 ≤ 146096 := by omega
  have hn : n + 719468 = (n + 719468) / 146097 * 146097 + (n + 719468) % 146097 := by omega
  generalize (n + 719468) % 146097 = r at *
  generalize (n + 719468) / 146097 = era at *
  obtain ⟨b0, b1⟩ := yr_bound hr0 hr1
  obtain ⟨s0, s1, s2⟩ := yr_ok hr0 hr1
  generalize yr r = y at *
  have hk0 : 0 ≤ r - S y := by omega
  have hk1 : r - S y ≤ 365 := by omega
  have hk2 : r - S y = 365 → leap (y + 1) := fun h => s2 (by omega)
  have hrk : r = S y + (r - S y) := by omega
  generalize r - S y = k at *
  subst hrk
  have hm0 : 0 ≤ (5 * k + 2) / 153 := by omega
  have hm1 : (5 * k + 2) / 153 ≤ 11 := by omega
  have hd : 1 ≤ k - mdays ((5 * k + 2) / 153) + 1 := by unfold mdays; omega
  have hd2 : k ≤ mdays ((5 * k + 2) / 153 + 1) - 1 := by unfold mdays; omega
  generalize hm : (5 * k + 2) / 153 = m at *
  by_cases hc : m + 3 > 12
  · simp only [hc, if_true]
    have e1 : (era * 400 + y + 1 - 1) / 400 = era := by omega
    have e2 : (era * 400 + y + 1 - 1) % 400 = y := by omega
    refine ⟨?_, by omega, by omega, hd, ?_⟩
    · unfold days
      rw [if_pos (by omega), e1, e2, show m + 3 - 12 + 9 = m by omega]
      omega
    · unfold dim
      have hcase : m = 10 ∨ m = 11 := by omega
      rcases hcase with rfl | rfl
      · simp [mdays] at *; omega
      · have hL : leap (era * 400 + y + 1) ↔ leap (y + 1) := by unfold leap; omega
        simp only [show (11 : Int) + 3 - 12 = 2 by rfl, if_true]
        by_cases hl : leap (y + 1)
        · rw [if_pos (hL.2 hl)]; simp [mdays] at *; omega
        · rw [if_neg (fun h => hl (hL.1 h))]
          have : k ≠ 365 := fun h => hl (hk2 h)
          simp [mdays] at *; omega
  · simp only [hc, if_false]
    have e1 : (era * 400 + y) / 400 = era := by omega
    have e2 : (era * 400 + y) % 400 = y := by omega
    refine ⟨?_, by omega, by omega, hd, ?_⟩
    · unfold days
      rw [if_neg (by omega), e1, e2, show m + 3 - 3 = m by omega]
      omega
    · unfold dim
      rw [if_neg (by omega)]
      have hcase : m = 0 ∨ m = 1 ∨ m = 2 ∨ m = 3 ∨ m = 4 ∨ m = 5 ∨ m = 6 ∨ m = 7 ∨ m = 8 ∨ m = 9 := by omega
      rcases hcase with rfl | rfl | rfl | rfl | rfl | rfl | rfl | rfl | rfl | rfl <;> simp [mdays] at * <;> omega

/-- the first of March of a year -/
def E (y : Int) : Int := y / 400 * 146097 + S (y % 400) - 719468

theorem E_leap {y : Int} (h : leap (y + 1)) : E (y + 1) = E y + 366 := by
  unfold E S; unfold leap at h
  by_cases h4 : (y + 1) % 400 = 0
  · have a1 : (y + 1) / 400 = y / 400 + 1 := by omega
    have a2 : y % 400 = 399 := by omega
    rw [a1, h4, a2]; omega
  · have a1 : (y + 1) / 400 = y / 400 := by omega
    have a2 : (y + 1) % 400 = y % 400 + 1 := by omega
    rw [a1, a2]
    have hq : 0 ≤ y % 400 ∧ y % 400 ≤ 398 := by omega
    have h5 : (y % 400 + 1) % 4 = 0 := by omega
    have h6 : (y % 400 + 1) % 100 ≠ 0 := by omega
    generalize y % 400 = q at *
    have : (q + 1) / 4 = q / 4 + 1 := by omega
    have : (q + 1) / 100 = q / 100 := by omega
    omega

theorem E_not {y : Int} (h : ¬ leap (y + 1)) : E (y + 1) = E y + 365 := by
  unfold E S; unfold leap at h
  have h4 : (y + 1) % 400 ≠ 0 := by omega
  have a1 : (y + 1) / 400 = y / 400 := by omega
  have a2 : (y + 1) % 400 = y % 400 + 1 := by omega
  rw [a1, a2]
  have hq : 0 ≤ y % 400 ∧ y % 400 ≤ 398 := by omega
  have h5 : (y % 400 + 1) % 4 ≠ 0 ∨ (y % 400 + 1) % 100 = 0 := by omega
  generalize y % 400 = q at *
  by_cases h7 : (q + 1) % 100 = 0
  · have : (q + 1) / 4 = q / 4 + 1 := by omega
    have : (q + 1) / 100 = q / 100 + 1 := by omega
    omega
  · have : (q + 1) / 4 = q / 4 := by omega
    have : (q + 1) / 100 = q / 100 := by omega
    omega

theorem days_E (y m d : Int) : days y m d = if m ≤ 2 then E (y - 1) + mdays (m + 9) + d - 1 else E y + mdays (m - 3) + d - 1 := by
  unfold days E; split <;> omega

theorem E_step (y : Int) : (leap (y + 1) ∧ E (y + 1) = E y + 366) ∨ (¬ leap (y + 1) ∧ E (y + 1) = E y + 365) := by
  by_cases h : leap (y + 1)
  · exact .inl ⟨h, E_leap h⟩
  · exact .inr ⟨h, E_not h⟩

/-- the first of January -/
theorem days_jan (y : Int) : days y 1 1 = E (y - 1) + 306 := by
  rw [days_E, if_pos (by decide)]; simp [mdays]

/-- a day lies in its month, and in its year -/
theorem days_in (y m d : Int) (h0 : 1 ≤ m) (h1 : m ≤ 12) (h2 : 1 ≤ d) (h3 : d ≤ dim y m) : days y 1 1 ≤ days y m 1 ∧ days y m d = days y m 1 + d - 1 ∧ days y m d < days (y + 1) 1 1 := by
  rw [days_jan, days_jan, days_E, days_E, show y + 1 - 1 = y by omega]
  have hE := E_step (y - 1)
  rw [show y - 1 + 1 = y by omega] at hE
  unfold dim at h3
  have hc : m = 1 ∨ m = 2 ∨ m = 3 ∨ m = 4 ∨ m = 5 ∨ m = 6 ∨ m = 7 ∨ m = 8 ∨ m = 9 ∨ m = 10 ∨ m = 11 ∨ m = 12 := by omega
  rcases hE with ⟨hl, hE⟩ | ⟨hl, hE⟩ <;> simp only [hl, if_true, if_false] at h3 <;> rcases hc with rfl | rfl | rfl | rfl | rfl | rfl | rfl | rfl | rfl | rfl | rfl | rfl <;> simp [mdays] at * <;> omega

/-- the years follow each other -/
theorem days_year (y : Int) : days y 1 1 + 365 ≤ days (y + 1) 1 1 ∧ days (y + 1) 1 1 ≤ days y 1 1 + 366 := by
  rw [days_jan, days_jan, show y + 1 - 1 = y by omega]
  have hE := E_step (y - 1)
  rw [show y - 1 + 1 = y by omega] at hE
  omega

theorem days_mono_nat (y : Int) (k : Nat) : days y 1 1 + 365 * k ≤ days (y + k) 1 1 := by
  induction k with
  | zero => simp
  | succ k ih =>
    have := (days_year (y + k)).1
    rw [show y + ((k + 1 : Nat) : Int) = y + k + 1 by omega]
    omega

theorem days_mono {y z : Int} (h : y ≤ z) : days y 1 1 + 365 * (z - y) ≤ days z 1 1 := by
  have := days_mono_nat y (z - y).toNat
  rw [show y + ((z - y).toNat : Int) = z by omega] at this
  omega

/-- the year of a day -/
theorem year_iff {n y : Int} : (date n).1 = y ↔ days y 1 1 ≤ n ∧ n < days (y + 1) 1 1 := by
  obtain ⟨h1, h2, h3, h4, h5⟩ := date_ok n
  obtain ⟨a1, a2, a3⟩ := days_in _ _ _ h2 h3 h4 h5
  rw [h1] at a2 a3
  constructor
  · rintro rfl
    exact ⟨by omega, a3⟩
  · rintro ⟨b1, b2⟩
    apply Classical.byContradiction
    intro hn
    rcases Int.lt_or_gt_of_ne hn with hlt | hgt
    · have := days_mono (show (date n).1 + 1 ≤ y by omega)
      omega
    · have := days_mono (show y + 1 ≤ (date n).1 by omega)
      omega

end Go.SX.Cal
